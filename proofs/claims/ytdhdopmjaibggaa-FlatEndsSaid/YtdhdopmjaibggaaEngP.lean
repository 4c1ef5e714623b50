/- The engine, part P: the rule for a region that draws its order. -/
import Derived.Test.YtdhdopmjaibggaaEngO
set_option linter.unusedSimpArgs false
set_option linter.unusedVariables false
namespace Go.Eng
open Go Go.RowKit

section
variable {C : Ctx} {s : AState} {β : Bt} {a : Act} {w : World}

theorem StR.hmem (h : StR C s β a w) {h' : List (Nat × Blk)} {t' : Nat → AV} (hm : ∀ p, p ∈ h' ↔ p ∈ s.h) (hnd : (h'.map (·.1)).Nodup) (ht : ∀ i, t' i = s.t i) : StR C { s with h := h', t := t' } β a w := by
  have hX : ∀ b, XOf C.F β h' b ↔ XOf C.F β s.h b := fun b => by
    constructor
    · rintro (hb | ⟨p, hp, r⟩)
      · exact .inl hb
      · exact .inr ⟨p, (hm p).1 hp, r⟩
    · rintro (hb | ⟨p, hp, r⟩)
      · exact .inl hb
      · exact .inr ⟨p, (hm p).2 hp, r⟩
  have m : Mono (XOf C.F β s.h) β w (XOf C.F β h') β w := ⟨fun b h1 h2 => absurd ((hX b).1 h1) h2, fun _ _ h => h, Nat.le_refl _, fun _ _ _ => rfl, fun _ _ _ h => h⟩
  refine ⟨h.defers, h.size, fun i => ?_, fun p hp => (h.own p ((hm p).1 hp)).mono m (fun _ _ _ _ => rfl) (fun h => h), fun p hp => h.lt p ((hm p).1 hp), h.βlt, hnd,
    fun p hp q hq => h.inj p ((hm p).1 hp) q ((hm q).1 hq), fun p hp => h.mine p ((hm p).1 hp), h.fr, h.Flt, h.sv.mono m, h.yy⟩
  simp only [ht]
  exact (h.tm i).mono m
end

section
variable {ops : Array Oper} {s0 : AState} {m : Nat} {res : Nat → AV × Option Blk}

theorem stE_nd (h0 : ∀ p ∈ s0.h, p.1 < s0.k) (hnd : (s0.h.map (·.1)).Nodup) : ∀ l : List Nat, l.Nodup → ((stE ops s0 m res l).h.map (·.1)).Nodup := by
  intro l
  rw [stE_h]
  induction l with
  | nil => intro _; simpa using hnd
  | cons i r ih =>
    intro hl
    obtain ⟨h1, h2⟩ := List.nodup_cons.1 hl
    cases hb : (res i).2 with
    | none => simp only [List.filterMap_cons, hb, Option.map_none]; exact ih h2
    | some b =>
      simp only [List.filterMap_cons, hb, Option.map_some, List.cons_append, List.map_cons, List.nodup_cons]
      refine ⟨fun hm => ?_, ih h2⟩
      obtain ⟨p, hp, he⟩ := List.mem_map.1 hm
      rw [List.mem_append] at hp
      rcases hp with hp | hp
      · simp only [List.mem_filterMap, Option.map_eq_some_iff] at hp
        obtain ⟨q, hq, b', _, rfl⟩ := hp
        simp only at he
        have : q = i := by omega
        exact h1 (this ▸ hq)
      · have := h0 p hp; omega

theorem stE_mem {l l' : List Nat} (h : ∀ i, i ∈ l ↔ i ∈ l') (p : Nat × Blk) : p ∈ (stE ops s0 m res l).h ↔ p ∈ (stE ops s0 m res l').h := by
  simp only [stE_h, List.mem_append, List.mem_filterMap]
  constructor
  · rintro (⟨i, hi, r⟩ | hp)
    · exact .inl ⟨i, (h i).1 hi, r⟩
    · exact .inr hp
  · rintro (⟨i, hi, r⟩ | hp)
    · exact .inl ⟨i, (h i).2 hi, r⟩
    · exact .inr hp

theorem stE_names (h0 : ∀ p ∈ s0.h, p.1 < s0.k) {l : List Nat} {p : Nat × Blk} (hp : p ∈ (stE ops s0 m res l).h) : p.1 < s0.k ∨ ∃ i ∈ l, p.1 = s0.k + i := by
  rw [stE_h, List.mem_append] at hp
  rcases hp with hp | hp
  · simp only [List.mem_filterMap, Option.map_eq_some_iff] at hp
    obtain ⟨i, hi, b, _, rfl⟩ := hp
    exact .inr ⟨i, hi, rfl⟩
  · exact .inl (h0 p hp)
end

section
variable {ops : Array Oper} {m : Nat} {A : List (List Nat × List Nat)}

theorem drawOk_one (hok : drawWk ops m A = true) {i : Nat} {o : Oper} (ho : ops[i]? = some o) : drawOne ops m A i o = true := by
  unfold drawWk at hok
  simp only [Bool.and_eq_true, List.all_eq_true, List.mem_range] at hok
  have hi : i < ops.size := (Array.getElem?_eq_some_iff.1 ho).1
  have := hok.2 i hi
  rw [ho] at this
  exact this

theorem drawOk_m (hok : drawWk ops m A = true) : m ≤ ops.size := by
  unfold drawWk at hok
  simp only [Bool.and_eq_true, decide_eq_true_eq] at hok
  exact hok.1

structure DrawFacts (ops : Array Oper) (m : Nat) (A : List (List Nat × List Nat)) (i : Nat) (o : Oper) : Prop where
  back : ∀ p ∈ predsO o, p < i
  tail : m ≤ i → ∀ j, j < m → j ∈ predsO o ∨ j ∈ (A.getD i ([], [])).1
  anc : ∀ j ∈ (A.getD i ([], [])).1, j < i ∧ (j ∈ predsO o ∨ ∃ p ∈ predsO o, j ∈ (A.getD p ([], [])).1)
  other : i < m → ∀ j d, j < m → j ≠ i → dstOf ops j = some d → o.dst ≠ some d ∧ (d ∈ usesT o → if j < i then j ∈ (A.getD i ([], [])).1 else i ∈ (A.getD j ([], [])).1)
  guard : i < m → ∀ j want, o.guard = some (j, want) → j < i ∧ j ∈ (A.getD i ([], [])).1

theorem draw_facts (hok : drawWk ops m A = true) {i : Nat} {o : Oper} (ho : ops[i]? = some o) : DrawFacts ops m A i o := by
  have h := drawOk_one hok ho
  unfold drawOne at h
  simp only [Bool.and_eq_true, Bool.or_eq_true, List.all_eq_true, decide_eq_true_eq, List.mem_range, List.contains_iff_mem, List.any_eq_true] at h
  obtain ⟨⟨⟨h1, h2⟩, h4⟩, h3⟩ := h
  refine ⟨h1, fun hi j hj => (h2.resolve_left (by omega)) j hj, fun j hj => h4 j hj, fun hi j d hj hji hd => ?_, fun hi j want hg => ?_⟩
  · have := ((h3.resolve_left (by omega)).1) j hj
    rcases this with h' | h'
    · exact absurd (by simpa using h') hji
    · rw [hd] at h'
      simp only [Bool.and_eq_true, bne_iff_ne, ne_eq, Bool.or_eq_true, Bool.not_eq_true'] at h'
      refine ⟨h'.1, fun hu => ?_⟩
      rcases h'.2 with h4 | h4
      · have : (usesT o).contains d = true := by simpa using hu
        rw [this] at h4; cases h4
      · by_cases hlt : j < i
        · rw [if_pos hlt] at h4 ⊢; simpa using h4
        · rw [if_neg hlt] at h4 ⊢; simpa using h4
  · have := (h3.resolve_left (by omega)).2
    rw [hg] at this
    simpa using this

/-- What is closed under the edges holds all that comes before. -/
theorem anc_mem (hok : drawWk ops m A = true) {ex : List Nat} (hcl : ∀ i ∈ ex, ∀ o, ops[i]? = some o → ∀ p ∈ predsO o, p ∈ ex) : ∀ i, ∀ o, ops[i]? = some o → (∀ p ∈ predsO o, p ∈ ex) → ∀ j ∈ (A.getD i ([], [])).1, j ∈ ex := by
  intro i
  induction i using Nat.strongRecOn with
  | _ i ih =>
    intro o ho hp j hj
    have f := draw_facts hok ho
    obtain ⟨hji, hj'⟩ := f.anc j hj
    rcases hj' with h | ⟨p, hpp, hjp⟩
    · exact hp j h
    · have hpi := f.back p hpp
      have hps : p < ops.size := by have := (Array.getElem?_eq_some_iff.1 ho).1; omega
      exact ih p hpi ops[p] (Array.getElem?_eq_getElem hps) (hcl p (hp p hpp) ops[p] (Array.getElem?_eq_getElem hps)) j hjp

theorem mem_predsO {o : Oper} {p : Nat} : p ∈ predsO o ↔ ∃ e ∈ o.after, Region.binds .any e = true ∧ e.on = p := by
  simp only [predsO, List.mem_map, List.mem_filter, Array.mem_toList_iff, bindsA]
  constructor
  · rintro ⟨e, ⟨h1, h2⟩, h3⟩; exact ⟨e, h1, h2, h3⟩
  · rintro ⟨e, h1, h2, h3⟩; exact ⟨e, ⟨h1, h2⟩, h3⟩

/-- The tail comes in the text's order. -/
theorem tailOk_at (ht : tailOk ops m A = true) {i : Nat} {o : Oper} (ho : ops[i]? = some o) (hi : m ≤ i) : ∀ j, j < i → j ∈ predsO o ∨ j ∈ (A.getD i ([], [])).1 := by
  unfold tailOk at ht
  simp only [List.all_eq_true, List.mem_range] at ht
  have := ht i (Array.getElem?_eq_some_iff.1 ho).1
  rw [ho] at this
  simp only [Bool.or_eq_true, decide_eq_true_eq, List.all_eq_true, List.mem_range, List.contains_iff_mem] at this
  exact this.resolve_left (by omega)
theorem tail_any {ro : Option Nat} {P : Program} {Q : Exit → Act → World → Prop} (hok : drawWk ops m A = true) (ht : tailOk ops m A = true) : ∀ (n j : Nat), m ≤ j → j + n = ops.size → ∀ (listed : Array Bool) (a : Act) (w : World),
    (∀ i, i < ops.size → listed.getD i true = decide (i < j)) → listed.size = ops.size → wpListIn (wd ro) 0 P ops Q (ops.toList.drop j) a w → wpAnyIn (wd ro) 0 P .any ops Q n listed a w := by
  intro n
  induction n with
  | zero =>
    intro j hmj hj listed a w hl hls h
    have hnil : ops.toList.drop j = [] := by simp; omega
    rw [hnil] at h
    refine ⟨?_, h⟩
    rw [List.eq_nil_iff_forall_not_mem]
    intro i hi
    obtain ⟨h1, o, ho, _⟩ := mem_ready.1 hi
    have hlt := (Array.getElem?_eq_some_iff.1 ho).1
    rw [hl i hlt] at h1
    simp at h1; omega
  | succ n ih =>
    intro j hmj hj listed a w hl hls h
    have hjs : j < ops.size := by omega
    have hoj : ops[j]? = some ops[j] := Array.getElem?_eq_getElem hjs
    have hd : ops.toList.drop j = ops[j] :: ops.toList.drop (j + 1) := by
      rw [List.drop_eq_getElem_cons (by simpa using hjs)]; simp
    rw [hd] at h
    have hready : ∀ i, i ∈ Region.ready .any ops listed ↔ i = j := by
      intro i
      constructor
      · intro hi
        obtain ⟨h1, o, ho, he⟩ := mem_ready.1 hi
        have hlt := (Array.getElem?_eq_some_iff.1 ho).1
        rw [hl i hlt] at h1
        have hji : j ≤ i := by simpa using h1
        rcases Nat.lt_or_eq_of_le hji with hlt' | rfl
        · have hpl : ∀ p ∈ predsO o, p < j := fun p hp => by
            obtain ⟨e, he1, he2, he3⟩ := mem_predsO.1 hp
            have := he e he1 he2
            rw [he3] at this
            have hpi := (draw_facts hok ho).back p hp
            have hd' : listed.getD p false = listed.getD p true := by
              have : p < ops.size := by omega
              simp [Array.getD, hls, this]
            rw [hd', hl p (by omega)] at this
            simpa using this
          have hp : j ∈ predsO o := by
            rcases tailOk_at ht ho (by omega) j hlt' with hp | hp
            · exact hp
            · have := anc_mem hok (ex := List.range j) (fun q hq oq hoq p hp => by
                have := (draw_facts hok hoq).back p hp
                have := List.mem_range.1 hq
                exact List.mem_range.2 (by omega)) i o ho (fun p hp => List.mem_range.2 (hpl p hp)) j hp
              have := List.mem_range.1 this
              omega
          obtain ⟨e, he1, he2, he3⟩ := mem_predsO.1 hp
          have := he e he1 he2
          rw [he3] at this
          have hd' : listed.getD j false = listed.getD j true := by simp [Array.getD, hls, hjs]
          rw [hd', hl j hjs] at this
          simp at this
        · rfl
      · rintro rfl
        refine mem_ready.2 ⟨by rw [hl i hjs]; simp, _, hoj, fun e he hb => ?_⟩
        have hp := (draw_facts hok hoj).back e.on (mem_predsO.2 ⟨e, he, hb, rfl⟩)
        have hd' : listed.getD e.on false = listed.getD e.on true := by
          have : e.on < ops.size := by omega
          simp [Array.getD, hls, this]
        rw [hd', hl _ (by omega)]
        simpa using hp
    refine ⟨fun hnil => ?_, fun i hi => ?_⟩
    · have := (hready j).2 rfl
      rw [hnil] at this; cases this
    · obtain rfl := (hready i).1 hi
      have hnext : ∀ a w, wpListIn (wd ro) 0 P ops Q (ops.toList.drop (i + 1)) a w → wpAnyIn (wd ro) 0 P .any ops Q n (listed.setIfInBounds i true) a w := fun a w h' =>
        ih (i + 1) (by omega) (by omega) _ a w (fun q hq => by
          by_cases hqi : i = q
          · subst hqi; simp [Array.getD, hls, hq]
          · have e1 : (listed.setIfInBounds i true).getD q true = listed.getD q true := getD_set_ne true hqi
            rw [e1, hl q hq]
            simp; omega) (by simp [hls]) h'
      unfold wpOpIn
      simp only [hoj]
      unfold wpListIn at h
      split
      · rename_i hw; rw [if_pos hw] at h; exact Oper.wpIn_mono hnext h
      · rename_i hw; rw [if_neg hw] at h; exact ⟨h.1, hnext _ _ h.2⟩
end
end Go.Eng
