/- The engine, part ZA: the rule for drawn regions in which something is written early. -/
import Derived.Test.YtdhdopmjaibggaaEngZ
set_option linter.unusedSimpArgs false
set_option linter.unusedVariables false
namespace Go.Eng
open Go Go.RowKit

def uOk (m : Nat) (A : List (List Nat × List Nat)) (j n : Nat) : Bool := (List.range m).all fun i => (A.getD j ([], [])).1.contains i || (A.getD i ([], [])).2.contains n
def fullW (m : Nat) (A : List (List Nat × List Nat)) (j : Nat) : Bool := (List.range m).all fun i => (A.getD j ([], [])).1.contains i
def maskE (k0 m : Nat) (A : List (List Nat × List Nat)) (s : AState) (j : Nat) : Nat → Option Blk := fun k => if k0 ≤ k ∧ k < k0 + m then (if (A.getD j ([], [])).1.contains (k - k0) then find s.h k else none) else find s.h k

/-- The tail, in its order: what is written early is looked up with what is known to have come up. -/
def tailE (P : Program) (A : List (List Nat × List Nat)) (ops : Array Oper) (m k0 : Nat) (rec : List It → (AState → Prop) → AState → Prop) (k : List It) (Q : AState → Prop) : List Oper → Nat → AState → Prop
  | [], _, s => rec (.o [] ops :: k) Q s
  | o :: r, j, s =>
    if fullW m A j = true then opK P idR o [] (tailE P A ops m k0 rec k Q r (j + 1)) s
    else match o.op with
      | .store t p x => stK P (evA s.t) (maskE k0 m A s j) t p x fun n b => uOk m A j n = true ∧ tailE P A ops m k0 rec k Q r (j + 1) { s with h := setN s.h n b }
      | .call ⟨.builtin .append, xs, ts⟩ => apK P (evA s.t) (maskE k0 m A s j) xs.toList ts.toList fun ns z l => (∀ n ∈ ns, uOk m A j n = true) ∧ tailE P A ops m k0 rec k Q r (j + 1) (putA (pushA { s with h := dropN ns s.h } ⟨z, l⟩) o.dst (.sl s.k 0 l.length))
      | _ => False

def drawOneE (ops : Array Oper) (m : Nat) (A : List (List Nat × List Nat)) (i : Nat) (o : Oper) : Bool :=
  (predsO o).all (fun p => decide (p < i)) &&
  ((A.getD i ([], [])).1.all fun j => decide (j < i) && ((predsO o).contains j || (predsO o).any fun p => ((A.getD p ([], [])).1).contains j)) &&
  (decide (m ≤ i) ||
    (((List.range m).all fun j => j == i || (match dstOf ops j with
        | none => true
        | some d => (o.dst != some d) && (!(usesT o).contains d || (if j < i then (A.getD i ([], [])).1.contains j else ((A.getD j ([], [])).1).contains i)))) &&
     (match o.guard with | none => true | some (j, _) => decide (j < i) && (A.getD i ([], [])).1.contains j)))
def tailOneE (ops : Array Oper) (m : Nat) (A : List (List Nat × List Nat)) (j : Nat) (o : Oper) : Bool :=
  decide (j < m) || (o.guard.isNone && (List.range j).all (fun q => decide (q < m) || (predsO o).contains q || (A.getD j ([], [])).1.contains q) &&
    (fullW m A j || ((match o.op with | .store _ _ _ => o.dst.isNone | _ => true) && (List.range m).all fun i =>
      (match dstOf ops i with | none => true | some d => (o.dst != some d) && (!(usesT o).contains d || (A.getD j ([], [])).1.contains i)) &&
      (match o.dst, ops[i]? with | some d, some oi => !(usesT oi).contains d | _, _ => true))))
def drawEk (ops : Array Oper) (m : Nat) (A : List (List Nat × List Nat)) : Bool :=
  decide (m ≤ ops.size) && ((List.range ops.size).all fun i => match ops[i]? with | none => true | some o => drawOneE ops m A i o && tailOneE ops m A i o)

structure FactsE (ops : Array Oper) (m : Nat) (A : List (List Nat × List Nat)) (i : Nat) (o : Oper) : Prop where
  back : ∀ p ∈ predsO o, p < i
  anc : ∀ j ∈ (A.getD i ([], [])).1, j < i ∧ (j ∈ predsO o ∨ ∃ p ∈ predsO o, j ∈ (A.getD p ([], [])).1)
  other : i < m → ∀ j d, j < m → j ≠ i → dstOf ops j = some d → o.dst ≠ some d ∧ (d ∈ usesT o → if j < i then j ∈ (A.getD i ([], [])).1 else i ∈ (A.getD j ([], [])).1)
  guard : i < m → ∀ j want, o.guard = some (j, want) → j < i ∧ j ∈ (A.getD i ([], [])).1
  noguard : m ≤ i → o.guard = none
  order : m ≤ i → ∀ q, m ≤ q → q < i → q ∈ predsO o ∨ q ∈ (A.getD i ([], [])).1
  early : m ≤ i → fullW m A i = false → (∀ t p x, o.op = .store t p x → o.dst = none) ∧ ∀ q, q < m →
    (∀ d, dstOf ops q = some d → o.dst ≠ some d ∧ (d ∈ usesT o → q ∈ (A.getD i ([], [])).1)) ∧ (∀ d oq, o.dst = some d → ops[q]? = some oq → d ∉ usesT oq)

section
variable {ops : Array Oper} {m : Nat} {A : List (List Nat × List Nat)}
theorem drawEk_m (hok : drawEk ops m A = true) : m ≤ ops.size := by
  unfold drawEk at hok
  simp only [Bool.and_eq_true, decide_eq_true_eq] at hok
  exact hok.1
theorem factsE (hok : drawEk ops m A = true) {i : Nat} {o : Oper} (ho : ops[i]? = some o) : FactsE ops m A i o := by
  unfold drawEk at hok
  simp only [Bool.and_eq_true, List.all_eq_true, List.mem_range] at hok
  have hi : i < ops.size := (Array.getElem?_eq_some_iff.1 ho).1
  have := hok.2 i hi
  rw [ho] at this
  simp only [Bool.and_eq_true] at this
  obtain ⟨h, ht⟩ := this
  unfold drawOneE at h
  simp only [Bool.and_eq_true, Bool.or_eq_true, List.all_eq_true, decide_eq_true_eq, List.mem_range, List.contains_iff_mem, List.any_eq_true] at h
  obtain ⟨⟨h1, h4⟩, h3⟩ := h
  unfold tailOneE at ht
  simp only [Bool.and_eq_true, Bool.or_eq_true, List.all_eq_true, decide_eq_true_eq, List.mem_range, List.contains_iff_mem] at ht
  refine ⟨h1, fun j hj => h4 j hj, fun hi j d hj hji hd => ?_, fun hi j want hg => ?_, fun hi => ?_, fun hi q hq hqi => ?_, fun hi hf => ?_⟩
  · have := ((h3.resolve_left (by omega)).1) j hj
    rcases this with h' | h'
    · exact absurd (by simpa using h') hji
    · rw [hd] at h'
      simp only [Bool.and_eq_true, bne_iff_ne, ne_eq, Bool.or_eq_true, Bool.not_eq_true'] at h'
      refine ⟨h'.1, fun hu => ?_⟩
      rcases h'.2 with h4 | h4
      · have : (usesT o).contains d = true := by simpa using hu
        rw [this] at h4; cases h4
      · by_cases hlt : j < i
        · rw [if_pos hlt] at h4 ⊢; simpa using h4
        · rw [if_neg hlt] at h4 ⊢; simpa using h4
  · have := (h3.resolve_left (by omega)).2
    rw [hg] at this
    simpa using this
  · have := (ht.resolve_left (by omega)).1.1
    simpa using this
  · have := (ht.resolve_left (by omega)).1.2 q hqi
    rcases this with (h | h) | h
    · omega
    · exact .inl h
    · exact .inr h
  · have := (ht.resolve_left (by omega)).2.resolve_left (by rw [hf]; simp)
    refine ⟨fun t p x he => ?_, fun q hq => ⟨fun d hd => ?_, fun d oq hd hoq => ?_⟩⟩
    · have := this.1
      rw [he] at this
      simpa using this
    · have := (this.2 q hq).1
      rw [hd] at this
      simp only [Bool.and_eq_true, bne_iff_ne, ne_eq, Bool.or_eq_true, Bool.not_eq_true', List.contains_iff_mem] at this
      refine ⟨this.1, fun hu => ?_⟩
      rcases this.2 with h5 | h5
      · have : (usesT o).contains d = true := by simpa using hu
        rw [this] at h5; cases h5
      · exact h5
    · have := (this.2 q hq).2
      rw [hd, hoq] at this
      simpa using this
theorem ancE (hok : drawEk ops m A = true) {Ex : Nat → Prop} (hcl : ∀ i, Ex i → ∀ o, ops[i]? = some o → ∀ p ∈ predsO o, Ex p) : ∀ i o, ops[i]? = some o → (∀ p ∈ predsO o, Ex p) → ∀ j ∈ (A.getD i ([], [])).1, Ex j := by
  intro i
  induction i using Nat.strongRecOn with
  | _ i ih =>
    intro o ho hp j hj
    have f := factsE hok ho
    obtain ⟨hji, hj'⟩ := f.anc j hj
    rcases hj' with h | ⟨p, hpp, hjp⟩
    · exact hp j h
    · have hpi := f.back p hpp
      have hps : p < ops.size := by have := (Array.getElem?_eq_some_iff.1 ho).1; omega
      exact ih p hpi ops[p] (Array.getElem?_eq_getElem hps) (hcl p (hp p hpp) ops[p] (Array.getElem?_eq_getElem hps)) j hjp
theorem fullW_mem {j : Nat} (h : fullW m A j = true) : ∀ i, i < m → i ∈ (A.getD j ([], [])).1 := by
  unfold fullW at h
  simp only [List.all_eq_true, List.mem_range, List.contains_iff_mem] at h
  exact h
end

theorem stK_more {P : Program} {ρ ρ' : Operand → AV} {H H' : Nat → Option Blk} {t : TypeId} {p x : Operand} {K K' : Nat → Blk → Prop} (hp : ρ p = ρ' p) (hx : ρ x = ρ' x) (hH : ∀ n b, H n = some b → H' n = some b)
    (hK : ∀ n b, K n b → K' n b) (h : stK P ρ H t p x K) : stK P ρ' H' t p x K' := by
  unfold stK at *
  rw [← hp, ← hx]
  split at h
  · split at h
    · rename_i k hk; rw [hH _ _ hk]; obtain ⟨ch, h1, h2, h3⟩ := h; exact ⟨ch, h1, h2, hK _ _ h3⟩
    · exact h.elim
  · exact h.elim

section
variable {P : Program} {A : List (List Nat × List Nat)} {ops : Array Oper} {m k0 : Nat} {rec : List It → (AState → Prop) → AState → Prop} {k : List It} {Q : AState → Prop}

theorem maskE_find {s : AState} {j n : Nat} {b : Blk} (h : maskE k0 m A s j n = some b) : find s.h n = some b := by
  unfold maskE at h
  split at h
  · split at h
    · exact h
    · cases h
  · exact h

theorem tailE_opK {o : Oper} {r : List Oper} {j : Nat} {s : AState} (hd : fullW m A j = false → ∀ t p x, o.op = .store t p x → o.dst = none) (h : tailE P A ops m k0 rec k Q (o :: r) j s) :
    opK P idR o [] (tailE P A ops m k0 rec k Q r (j + 1)) s := by
  unfold tailE at h
  split at h
  · exact h
  · rename_i hf
    have hf' : fullW m A j = false := by simpa using hf
    split at h
    · rename_i t p x ho
      have hdst := hd hf' t p x ho
      unfold opK
      rw [ho]
      simp only
      refine stK_more rfl rfl (fun _ _ => maskE_find) (fun n b hk => ?_) h
      rw [hdst]; exact hk.2
    · rename_i xs ts ho
      unfold opK
      rw [ho]
      simp only
      exact apK_mono (fun ns z l hk => hk.2) (apK_more (fun _ _ => rfl) (fun _ _ => maskE_find) h)
    · exact h.elim

theorem wanted_none {o : Oper} (h : o.guard = none) (y : Nat → Option Bool) : Region.wanted o y = true := by simp [Region.wanted, h]

/-- All that is only looked at has come up: the tail comes in its order. -/
theorem tailE_full {ro : Option Nat} {Cs : Ctx → Prop} {Fin : Act → World → Prop} (hg : GoodC P ro Cs) (hrec : Snd P rec) (hQ : ∀ s a w, Q s → Stc Cs s a w → Fin a w) (hok : drawEk ops m A = true) :
    ∀ (r : List Oper) (j : Nat) (listed : Array Bool) (s : AState) (a : Act) (w : World), r = ops.toList.drop j → m ≤ j → j ≤ ops.size → listed.size = ops.size → (∀ i, i < ops.size → listed.getD i true = decide (i < j)) →
      tailE P A ops m k0 rec k Q r j s → Stc Cs s a w → wpAnyIn (wd ro) 0 P .any ops (kpost Fin (Kont P Cs ro Fin k)) r.length listed a w := by
  intro r
  induction r with
  | nil =>
    intro j listed s a w hr hmj hjs hls hl h hst
    have hj : j = ops.size := by have := congrArg List.length hr; simp at this; omega
    refine ⟨?_, by have := hrec ro Cs Fin Q hg hQ (.o [] ops :: k) s a w h hst; exact this⟩
    rw [List.eq_nil_iff_forall_not_mem]
    intro i hi
    obtain ⟨h1, o, ho, _⟩ := mem_ready.1 hi
    have hlt := (Array.getElem?_eq_some_iff.1 ho).1
    rw [hl i hlt] at h1
    simp at h1; omega
  | cons o r ih =>
    intro j listed s a w hr hmj hjs hls hl h hst
    have hjlt : j < ops.size := by have := congrArg List.length hr; simp at this; omega
    have hd' : ops.toList.drop j = ops[j] :: ops.toList.drop (j + 1) := by
      rw [List.drop_eq_getElem_cons (by simpa using hjlt)]; simp
    rw [hd'] at hr
    obtain ⟨rfl, rfl⟩ := List.cons.inj hr
    have hoj : ops[j]? = some ops[j] := Array.getElem?_eq_getElem hjlt
    have f := factsE hok hoj
    have hdg : ∀ q, q < ops.size → listed.getD q false = listed.getD q true := fun q hq => by simp [Array.getD, hls, hq]
    have hready : ∀ i, i ∈ Region.ready .any ops listed ↔ i = j := by
      intro i
      constructor
      · intro hi
        obtain ⟨h1, oi, hoi, he⟩ := mem_ready.1 hi
        have hlt := (Array.getElem?_eq_some_iff.1 hoi).1
        rw [hl i hlt] at h1
        have hji : j ≤ i := by simpa using h1
        rcases Nat.lt_or_eq_of_le hji with hlt' | rfl
        · have fi := factsE hok hoi
          have hpl : ∀ p ∈ predsO oi, p < j := fun p hp => by
            obtain ⟨e, he1, he2, he3⟩ := mem_predsO.1 hp
            have := he e he1 he2
            rw [he3] at this
            have hpi := fi.back p hp
            rw [hdg p (by omega), hl p (by omega)] at this
            simpa using this
          rcases fi.order (by omega) j hmj hlt' with hp | hp
          · have := hpl j hp; omega
          · have := ancE hok (Ex := fun q => q < j) (fun q hq oq hoq p hp => by have := (factsE hok hoq).back p hp; omega) i oi hoi hpl j hp
            omega
        · rfl
      · rintro rfl
        refine mem_ready.2 ⟨by rw [hl i hjlt]; simp, _, hoj, fun e he hb => ?_⟩
        have hp := f.back e.on (mem_predsO.2 ⟨e, he, hb, rfl⟩)
        rw [hdg _ (by omega), hl _ (by omega)]
        simpa using hp
    refine ⟨fun hnil => ?_, fun i hi => ?_⟩
    · have := (hready j).2 rfl
      rw [hnil] at this; cases this
    · obtain rfl := (hready i).1 hi
      unfold wpOpIn
      simp only [hoj]
      rw [if_pos (wanted_none (f.noguard hmj) _)]
      have hop := tailE_opK (fun hf => (f.early hmj hf).1) h
      refine opK_sound hg hst hop fun s' a' w' hrec' hst' => ?_
      refine ih (i + 1) _ s' a' w' rfl (by omega) (by omega) (by simp [hls]) (fun q hq => ?_) hrec' hst'
      by_cases hqi : i = q
      · subst hqi; simp [Array.getD, hls, hq]
      · have e1 : (listed.setIfInBounds i true).getD q true = listed.getD q true := getD_set_ne true hqi
        rw [e1, hl q hq]
        simp; omega
end
end Go.Eng
