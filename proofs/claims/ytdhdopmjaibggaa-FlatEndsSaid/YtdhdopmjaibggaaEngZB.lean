/- The engine, part ZB: that the rule for drawn regions with early writes is right. -/
import Derived.Test.YtdhdopmjaibggaaEngZA
set_option linter.unusedSimpArgs false
set_option linter.unusedVariables false
namespace Go.Eng
open Go Go.RowKit

section
variable {P : Program} {A : List (List Nat × List Nat)} {ops : Array Oper} {m k0 : Nat} {rec : List It → (AState → Prop) → AState → Prop} {k : List It} {Q : AState → Prop}

theorem uniqE (hok : drawEk ops m A = true) {i j t : Nat} (hi : i < m) (hj : j < m) (hij : j ≠ i) (hd : dstOf ops i = some t) : dstOf ops j ≠ some t := by
  intro hdj
  have his : i < ops.size := Nat.lt_of_lt_of_le hi (drawEk_m hok)
  have f := factsE hok (Array.getElem?_eq_getElem his)
  refine (f.other hi j t hj hij hdj).1 ?_
  simpa [dstOf, his] using hd

theorem stF_perm (hok : drawEk ops m A = true) {b : AState} {res : Nat → AV × Option Blk} (hb : Base k0 m b) {l l' : List Nat} (hm : ∀ i, i ∈ l ↔ i ∈ l') (hn : l.Nodup) (hn' : l'.Nodup) (hlt : ∀ i ∈ l, i < m) : EqS (stF ops k0 b res l) (stF ops k0 b res l') := by
  have hlt' : ∀ i ∈ l', i < m := fun i hi => hlt i ((hm i).2 hi)
  refine ⟨by rw [(stF_n l).1, (stF_n l').1], by rw [(stF_n l).2, (stF_n l').2], by rw [stF_x, stF_x], fun t => ?_, fun p => ?_, stF_nd hb l hn hlt, stF_nd hb l' hn' hlt'⟩
  · by_cases hw : ∃ i, i ∈ l ∧ dstOf ops i = some t ∧ t < b.n
    · obtain ⟨i, hi, hd, htn⟩ := hw
      rw [stF_new hd htn l hi (fun j hj hji => uniqE hok (hlt i hi) (hlt j hj) hji hd), stF_new hd htn l' ((hm i).1 hi) (fun j hj hji => uniqE hok (hlt i hi) (hlt' j hj) hji hd)]
    · have hno : ∀ j ∈ l, dstOf ops j ≠ some t ∨ ¬ t < b.n := fun j hj => by
        by_cases h1 : dstOf ops j = some t
        · exact .inr fun h2 => hw ⟨j, hj, h1, h2⟩
        · exact .inl h1
      rw [stF_old l hno, stF_old l' (fun j hj => hno j ((hm j).2 hj))]
  · rw [stF_hmem, stF_hmem]
    constructor
    · rintro (⟨i, hi, r⟩ | h)
      · exact .inl ⟨i, (hm i).1 hi, r⟩
      · exact .inr h
    · rintro (⟨i, hi, r⟩ | h)
      · exact .inl ⟨i, (hm i).2 hi, r⟩
      · exact .inr h

theorem preN_nd : ∀ q, (preN q).Nodup
  | 0 => List.nodup_nil
  | q + 1 => List.nodup_cons.2 ⟨fun h => by have := mem_preN.1 h; omega, preN_nd q⟩

theorem guardA_congr {t t' : Nat → AV} {o : Oper} (h : ∀ j want d, o.guard = some (j, want) → (ops[j]?).bind (·.dst) = some d → t d = t' d) : guardA ops t o = guardA ops t' o := by
  unfold guardA
  cases hg : o.guard with
  | none => rfl
  | some g =>
    obtain ⟨j, want⟩ := g
    simp only
    cases hd : (ops[j]?).bind (·.dst) with
    | none => rfl
    | some d => simp only [h j want d hg hd]

/-- What an operation was shown to give stands when something that it does not look at is written. -/
theorem EvF_ver (hok : drawEk ops m A = true) {b b' : AState} {res res' : Nat → AV × Option Blk} {i : Nat} {o : Oper} (him : i < m) (ho : ops[i]? = some o) (hn : b.n = b'.n) (h1 : ∀ q, (res q).1 = (res' q).1) (h2 : res i = res' i)
    (ht : ∀ t, (t ∈ usesT o ∨ ∃ j, j < m ∧ dstOf ops j = some t) → b.t t = b'.t t)
    (hm : ∀ c n, (A.getD i ([], [])).2.contains n = false → (∀ q, q ∈ (A.getD i ([], [])).1 → k0 + q ≠ n) → find b.h n = some c → find b'.h n = some c)
    (hr : ∀ q, q ∈ (A.getD i ([], [])).1 → (A.getD i ([], [])).2.contains (k0 + q) = false → (res q).2 = (res' q).2) (hb : Base k0 m b) (hb' : Base k0 m b')
    (h : EvF P A ops k0 m b res i o) : EvF P A ops k0 m b' res' i o := by
  have f := factsE hok ho
  have htt : ∀ t, (t ∈ usesT o ∨ ∃ j, j < m ∧ dstOf ops j = some t) → (stF ops k0 b res (preN i)).t t = (stF ops k0 b' res' (preN i)).t t := fun t h => stF_t hn (ht t h) h1 _
  have hops : ∀ x ∈ o.op.operands.toList, evA (stF ops k0 b res (preN i)).t x = evA (stF ops k0 b' res' (preN i)).t x := by
    intro x hx
    cases x with
    | tmp t => exact htt t (.inl (usesT_mem hx))
    | _ => rfl
  have hmask : ∀ n c, maskF k0 m A b (stF ops k0 b res (preN i)) i n = some c → maskF k0 m A b' (stF ops k0 b' res' (preN i)) i n = some c := by
    intro n c hc
    unfold maskF at hc ⊢
    split at hc
    · cases hc
    · rename_i hu
      have hu' : (A.getD i ([], [])).2.contains n = false := by simpa using hu
      rw [if_neg hu]
      split at hc
      · rename_i hk
        rw [if_pos hk]
        split at hc
        · rename_i hq
          rw [if_pos hq]
          have hq' := List.contains_iff_mem.1 hq
          have hlt := (f.anc _ hq').1
          have e : n = k0 + (n - k0) := by omega
          rw [e] at hc ⊢
          rw [findF_new hb (by omega) _ (mem_preN.2 hlt)] at hc
          rw [findF_new hb' (by omega) _ (mem_preN.2 hlt), ← hr _ hq' (by rw [← e]; exact hu')]
          exact hc
        · cases hc
      · rename_i hk
        rw [if_neg hk]
        refine hm c n hu' (fun q hq e => hk ?_) hc
        have := (f.anc q hq).1
        omega
  have hgd : guardA ops (stF ops k0 b res (preN i)).t o = guardA ops (stF ops k0 b' res' (preN i)).t o := by
    refine guardA_congr fun j want d hg hd => htt d (.inr ⟨j, ?_, hd⟩)
    have := (f.guard him j want hg).1
    omega
  unfold EvF at *
  split at h
  · rename_i hg
    rw [← h2]
    exact qopK_more hops hmask h
  · rename_i g hg
    obtain ⟨c, want, e1, e2, e3⟩ := h
    rw [← hgd, ← h2]
    exact ⟨c, want, e1, fun hc => qopK_more hops hmask (e2 hc), e3⟩

theorem find_setN_ne {h : List (Nat × Blk)} {n q : Nat} {c : Blk} (hq : q ≠ n) : find (setN h n c) q = find h q := by
  induction h with
  | nil => rfl
  | cons p r ih =>
    obtain ⟨m', d⟩ := p
    rw [setN_cons]
    by_cases hm : m' = n
    · subst hm
      rw [if_pos rfl]
      simp only [find]
      rw [if_neg (Ne.symm hq), if_neg (Ne.symm hq)]
      exact ih
    · rw [if_neg hm]
      simp only [find]
      rw [ih]
theorem find_dropN {h : List (Nat × Blk)} {ns : List Nat} {q : Nat} (hq : q ∉ ns) : find (dropN ns h) q = find h q := by
  induction h with
  | nil => rfl
  | cons p r ih =>
    obtain ⟨m', d⟩ := p
    rw [dropN_cons]
    by_cases hm : ns.contains m' = true
    · rw [if_pos hm]
      have : m' ≠ q := fun e => hq (e ▸ List.contains_iff_mem.1 hm)
      simp only [find]
      rw [if_neg this]
      exact ih
    · rw [if_neg hm]
      simp only [find]
      rw [ih]
theorem stK_find {P : Program} {ρ : Operand → AV} {H : Nat → Option Blk} {t : TypeId} {p x : Operand} {K : Nat → Blk → Prop} (h : stK P ρ H t p x K) : stK P ρ H t p x (fun n b => K n b ∧ ∃ c, H n = some c) := by
  unfold stK at *
  split at h
  · split at h
    · rename_i c hk; obtain ⟨ch, h1, h2, h3⟩ := h; (try rw [hk]); exact ⟨ch, h1, h2, h3, c, hk⟩
    · exact h.elim
  · exact h.elim
theorem apK_find {P : Program} {ρ : Operand → AV} {H : Nat → Option Blk} {xs : List Operand} {ts : List TypeId} {K : List Nat → Nat → List (List AV) → Prop} (h : apK P ρ H xs ts K) : apK P ρ H xs ts (fun ns z l => K ns z l ∧ ∀ n ∈ ns, ∃ c, H n = some c) := by
  unfold apK at *
  split at h
  case h_2 => exact h.elim
  split at h
  case h_2 => exact h.elim
  obtain ⟨h1, h2, h⟩ := h
  refine ⟨h1, h2, ?_⟩
  unfold dstK at *
  split at h
  · split at h
    · rename_i c hk
      (try rw [hk])
      refine ⟨h.1, h.2.1, srcK_mono (fun l hl => ⟨hl.1, hl.2.1, hl.2.2, fun n hn => ?_⟩) h.2.2⟩
      simp only [List.mem_singleton] at hn
      subst hn
      exact ⟨c, hk⟩
    · exact h.elim
  · exact srcK_mono (fun l hl => ⟨hl.1, hl.2.1, hl.2.2, fun n hn => by simp at hn⟩) h
  · exact srcK_mono (fun l hl => ⟨hl.1, hl.2.1, hl.2.2, fun n hn => by simp at hn⟩) h
  · exact h.elim
theorem EqS.symm {s s' : AState} (e : EqS s s') : EqS s' s := ⟨e.n.symm, e.k.symm, e.x.symm, fun i => (e.t i).symm, fun p => (e.m p).symm, e.nd', e.nd⟩
theorem EqS.trans {s s' s'' : AState} (e : EqS s s') (f : EqS s' s'') : EqS s s'' := ⟨e.n.trans f.n, e.k.trans f.k, e.x.trans f.x, fun i => (e.t i).trans (f.t i), fun p => (e.m p).trans (f.m p), e.nd, f.nd'⟩
theorem Base.push {b : AState} (h : Base k0 m b) (c : Blk) (d : Option Nat) (v : AV) : Base k0 m (putA (pushA b c) d v) := by
  refine ⟨by rw [(putA_h _ _ _).2.2]; simp only [pushA]; have := h.1; omega, fun p hp => ?_, ?_⟩
  · rw [(putA_h _ _ _).1] at hp
    rw [(putA_h _ _ _).2.2]
    simp only [pushA, List.mem_cons] at hp ⊢
    rcases hp with rfl | hp
    · exact .inr ⟨h.1, by simp⟩
    · rcases h.2.1 p hp with h' | h'
      · exact .inl h'
      · exact .inr ⟨h'.1, by omega⟩
  · rw [(putA_h _ _ _).1]
    simp only [pushA, List.map_cons, List.nodup_cons]
    refine ⟨fun hm => ?_, h.2.2⟩
    obtain ⟨p, hp, he⟩ := List.mem_map.1 hm
    have := h.2.1 p hp
    have := h.1
    omega
theorem Base.drop {b : AState} (h : Base k0 m b) (ns : List Nat) : Base k0 m { b with h := dropN ns b.h } :=
  ⟨h.1, fun p hp => h.2.1 p (mem_dropN.1 hp).1, dropN_nodup ns h.2.2⟩
theorem Base.set {b : AState} (h : Base k0 m b) (n : Nat) (c : Blk) : Base k0 m { b with h := setN b.h n c } := by
  refine ⟨h.1, fun p hp => ?_, by simp only [setN_names]; exact h.2.2⟩
  rcases (mem_setN_iff n c p).1 hp with ⟨hp, _⟩ | ⟨rfl, q, hq, hqn⟩
  · exact h.2.1 p hp
  · have := h.2.1 q hq
    simp only; omega
theorem stF_push {b : AState} {res : Nat → AV × Option Blk} (hb : Base k0 m b) (c : Blk) (d : Option Nat) (v : AV) {l : List Nat} (hn : l.Nodup) (hlt : ∀ i ∈ l, i < m) (hok : drawEk ops m A = true)
    (hd : ∀ i ∈ l, ∀ t, d = some t → dstOf ops i ≠ some t) : EqS (stF ops k0 (putA (pushA b c) d v) res l) (putA (pushA (stF ops k0 b res l) c) d v) := by
  have hk : (stF ops k0 b res l).k = b.k := (stF_n l).2
  have hnn : (stF ops k0 b res l).n = b.n := (stF_n l).1
  refine ⟨?_, ?_, ?_, fun t => ?_, fun p => ?_, stF_nd (hb.push c d v) l hn hlt, ?_⟩
  · rw [(stF_n l).1, (putA_h _ _ _).2.1, (putA_h _ _ _).2.1]; simp only [pushA, hnn]
  · rw [(stF_n l).2, (putA_h _ _ _).2.2, (putA_h _ _ _).2.2]; simp only [pushA, hk]
  · rw [stF_x, putA_x, putA_x]; simp only [pushA, stF_x]
  · rw [putA_get]
    have hn1 : (pushA (stF ops k0 b res l) c).n = b.n := hnn
    have ht1 : (pushA (stF ops k0 b res l) c).t t = (stF ops k0 b res l).t t := rfl
    have hn2 : (putA (pushA b c) d v).n = b.n := (putA_h _ _ _).2.1
    rw [hn1, ht1]
    by_cases hw : ∃ i, i ∈ l ∧ dstOf ops i = some t ∧ t < b.n
    · obtain ⟨i, hi, hdi, htn⟩ := hw
      have hne : ¬ (d = some t ∧ t < b.n) := fun e => hd i hi t e.1 hdi
      rw [if_neg hne, stF_new hdi (by rw [hn2]; exact htn) l hi (fun j hj hji => uniqE hok (hlt i hi) (hlt j hj) hji hdi), stF_new hdi htn l hi (fun j hj hji => uniqE hok (hlt i hi) (hlt j hj) hji hdi)]
    · have hno : ∀ j ∈ l, dstOf ops j ≠ some t ∨ ¬ t < b.n := fun j hj => by
        by_cases h1 : dstOf ops j = some t
        · exact .inr fun h2 => hw ⟨j, hj, h1, h2⟩
        · exact .inl h1
      rw [stF_old l (by rw [hn2]; exact hno), stF_old l hno, putA_get]
      rfl
  · rw [stF_hmem, (putA_h _ _ _).1, (putA_h _ _ _).1]
    simp only [pushA, List.mem_cons, stF_hmem, hk]
    constructor
    · rintro (h | h | h)
      · exact .inr (.inl h)
      · exact .inl h
      · exact .inr (.inr h)
    · rintro (h | h | h)
      · exact .inr (.inl h)
      · exact .inl h
      · exact .inr (.inr h)
  · rw [(putA_h _ _ _).1]
    simp only [pushA, List.map_cons, List.nodup_cons]
    refine ⟨fun hm => ?_, stF_nd hb l hn hlt⟩
    obtain ⟨p, hp, he⟩ := List.mem_map.1 hm
    rw [hk] at he
    have := hb.1
    rcases stF_hmem.1 hp with ⟨q, hq', c', _, rfl⟩ | hp
    · have := hlt q hq'
      simp only at he; omega
    · have := hb.2.1 p hp; omega

theorem drawE_any {ro : Option Nat} {Cs : Ctx → Prop} {Fin : Act → World → Prop} (hg : GoodC P ro Cs) (hrec : Snd P rec) (hQ : ∀ s a w, Q s → Stc Cs s a w → Fin a w) (hok : drawEk ops m A = true) {C : Ctx} (hC : Cs C) :
    ∀ (n : Nat) (ex : List Nat) (j : Nat) (listed : Array Bool) (β : Bt) (a : Act) (w : World) (b : AState) (res : Nat → AV × Option Blk) (sF : AState),
      ex.length + (j - m) + n = ops.size → m ≤ j → j ≤ ops.size → ex.Nodup → (∀ i ∈ ex, i < m) → (∀ i, (i ∈ ex ∨ (m ≤ i ∧ i < j)) → ∀ o, ops[i]? = some o → ∀ p ∈ predsO o, (p ∈ ex ∨ (m ≤ p ∧ p < j))) →
      listed.size = ops.size → (∀ i, i < ops.size → listed.getD i true = decide (i ∈ ex ∨ (m ≤ i ∧ i < j))) → (∀ i, i < m → i ∉ ex → β (k0 + i) = none) → Base k0 m b →
      (∀ i, i < m → i ∉ ex → ∀ o, ops[i]? = some o → EvF P A ops k0 m b res i o) → EqS sF (stF ops k0 b res (preN m)) → tailE P A ops m k0 rec k Q (ops.toList.drop j) j sF →
      StR C (stF ops k0 b res ex) β a w → wpAnyIn (wd ro) 0 P .any ops (kpost Fin (Kont P Cs ro Fin k)) n listed a w := by
  have hP := hg.prog C hC
  subst hP
  have hms := drawEk_m hok
  -- all that is only looked at has come up
  have done : ∀ (n : Nat) (ex : List Nat) (j : Nat) (listed : Array Bool) (β : Bt) (a : Act) (w : World) (b : AState) (res : Nat → AV × Option Blk) (sF : AState), ex.length = m →
      ex.length + (j - m) + n = ops.size → m ≤ j → j ≤ ops.size → ex.Nodup → (∀ i ∈ ex, i < m) →
      listed.size = ops.size → (∀ i, i < ops.size → listed.getD i true = decide (i ∈ ex ∨ (m ≤ i ∧ i < j))) → Base k0 m b →
      EqS sF (stF ops k0 b res (preN m)) → tailE C.P A ops m k0 rec k Q (ops.toList.drop j) j sF →
      StR C (stF ops k0 b res ex) β a w → wpAnyIn (wd ro) 0 C.P .any ops (kpost Fin (Kont C.P Cs ro Fin k)) n listed a w := by
    intro n ex j listed β a w b res sF hfl hlen hmj hjs hnd hlt hls hl hb heq hT hst
    have hfull := full_mem hnd hlt hfl
    have hmem : ∀ i, i ∈ preN m ↔ i ∈ ex := fun i => by rw [mem_preN]; exact ⟨fun h => hfull i h, fun h => hlt i h⟩
    have hst' := (stF_perm (res := res) hok hb hmem (preN_nd m) hnd (fun i hi => mem_preN.1 hi)).stR hst
    have hst'' := heq.stR hst'
    have hn : n = (ops.toList.drop j).length := by simp; omega
    rw [hn]
    refine tailE_full hg hrec hQ hok _ j listed sF a w rfl hmj hjs hls (fun i hi => ?_) hT ⟨C, hC, β, hst''⟩
    rw [hl i hi]
    congr 1
    refine propext ⟨fun h => ?_, fun h => ?_⟩
    · rcases h with h | h
      · have := hlt i h; omega
      · exact h.2
    · by_cases him : i < m
      · exact .inl (hfull i him)
      · exact .inr ⟨by omega, h⟩
  intro n
  induction n with
  | zero =>
    intro ex j listed β a w b res sF hlen hmj hjs hnd hlt hcl hls hl hβ hb hev heq hT hst
    have := nodup_len hnd hlt
    exact done 0 ex j listed β a w b res sF (by omega) hlen hmj hjs hnd hlt hls hl hb heq hT hst
  | succ n ih =>
    intro ex j listed β a w b res sF hlen hmj hjs hnd hlt hcl hls hl hβ hb hev heq hT hst
    by_cases hfl : ex.length = m
    · exact done _ ex j listed β a w b res sF hfl hlen hmj hjs hnd hlt hls hl hb heq hT hst
    have hexm := nodup_len hnd hlt
    have hgd : ∀ q, q < ops.size → listed.getD q false = listed.getD q true := fun q hq => by simp [Array.getD, hls, hq]
    refine ⟨fun hnil => ?_, fun i hi => ?_⟩
    · -- the least that has not come up may come up
      obtain ⟨i, h1, h2, h3⟩ := exists_least hnd hlt (by omega)
      have his : i < ops.size := by omega
      have hin : i ∈ Region.ready .any ops listed := by
        refine mem_ready.2 ⟨by rw [hl i his]; simp [h2]; omega, ops[i], Array.getElem?_eq_getElem his, fun e he hb => ?_⟩
        have hp := (factsE hok (Array.getElem?_eq_getElem his)).back e.on (mem_predsO.2 ⟨e, he, hb, rfl⟩)
        rw [hgd _ (by omega), hl _ (by omega)]
        simp [h3 _ hp]
      rw [hnil] at hin; cases hin
    · obtain ⟨h1, o, ho, he⟩ := mem_ready.1 hi
      have his : i < ops.size := (Array.getElem?_eq_some_iff.1 ho).1
      rw [hl i his] at h1
      have hnot : ¬ (i ∈ ex ∨ (m ≤ i ∧ i < j)) := by simpa using h1
      have hnex : i ∉ ex := fun h => hnot (.inl h)
      have f := factsE hok ho
      have hpre : ∀ p ∈ predsO o, (p ∈ ex ∨ (m ≤ p ∧ p < j)) := by
        intro p hp
        obtain ⟨e, he1, he2, rfl⟩ := mem_predsO.1 hp
        have := he e he1 he2
        have hps := f.back e.on hp
        rw [hgd _ (by omega), hl _ (by omega)] at this
        simpa using this
      have hancE := ancE hok (Ex := fun q => q ∈ ex ∨ (m ≤ q ∧ q < j)) hcl i o ho hpre
      by_cases him : i < m
      · -- it is only looked at
        have hanc : ∀ q ∈ (A.getD i ([], [])).1, q ∈ ex := fun q hq => by
          have := (f.anc q hq).1
          rcases hancE q hq with h | h
          · exact h
          · omega
        have hdst : dstOf ops i = o.dst := by simp [dstOf, ho]
        have hslot : ∀ t, (t ∈ usesT o ∨ ∃ q, q ∈ (A.getD i ([], [])).1 ∧ dstOf ops q = some t) → (stF ops k0 b res ex).t t = (stF ops k0 b res (preN i)).t t := by
          intro t htu
          by_cases hw : ∃ q, q < m ∧ q ≠ i ∧ dstOf ops q = some t ∧ t < b.n
          · obtain ⟨q, hq, hqi, hd, htn⟩ := hw
            have hqs : q < ops.size := by omega
            have huniq : ∀ q', q' < m → q' ≠ q → dstOf ops q' ≠ some t := fun q' h1 h2 => uniqE hok hq h1 h2 hd
            have hrel : q < i ∧ q ∈ (A.getD i ([], [])).1 ∨ i < q ∧ q ∉ ex := by
              rcases htu with htu | ⟨q', hq', hdq⟩
              · have := (f.other him q t hq hqi hd).2 htu
                by_cases hlt' : q < i
                · rw [if_pos hlt'] at this; exact .inl ⟨hlt', this⟩
                · rw [if_neg hlt'] at this
                  refine .inr ⟨by omega, fun hje => hnex ?_⟩
                  have := ancE hok (Ex := fun q => q ∈ ex ∨ (m ≤ q ∧ q < j)) hcl q ops[q] (Array.getElem?_eq_getElem hqs) (hcl q (.inl hje) ops[q] (Array.getElem?_eq_getElem hqs)) i this
                  rcases this with h | h
                  · exact h
                  · omega
              · have hqi' := (f.anc q' hq').1
                have : q' = q := by
                  apply Classical.byContradiction
                  intro hne
                  exact huniq q' (by omega) hne hdq
                subst this
                exact .inl ⟨hqi', hq'⟩
            rcases hrel with ⟨hlt', hA⟩ | ⟨hgt, hne⟩
            · rw [stF_new hd htn ex (hanc q hA) (fun q' hq' => huniq q' (hlt q' hq')), stF_new hd htn (preN i) (mem_preN.2 hlt') (fun q' hq' => huniq q' (by have := mem_preN.1 hq'; omega))]
            · rw [stF_old ex (fun q' hq' => by
                by_cases hqj : q' = q
                · subst hqj; exact absurd hq' hne
                · exact .inl (huniq q' (hlt q' hq') hqj)), stF_old (preN i) (fun q' hq' => by
                have := mem_preN.1 hq'
                exact .inl (huniq q' (by omega) (by omega)))]
          · have hno : ∀ q, q < m → q ≠ i → dstOf ops q ≠ some t ∨ ¬ t < b.n := by
              intro q hq hqi
              by_cases h1 : dstOf ops q = some t
              · exact .inr fun h2 => hw ⟨q, hq, hqi, h1, h2⟩
              · exact .inl h1
            rw [stF_old ex (fun q hq => hno q (hlt q hq) (fun e => hnex (e ▸ hq))), stF_old (preN i) (fun q hq => by have := mem_preN.1 hq; exact hno q (by omega) (by omega))]
        have hops : ∀ x ∈ o.op.operands.toList, evA (stF ops k0 b res (preN i)).t x = evA (stF ops k0 b res ex).t x := by
          intro x hx
          cases x with
          | tmp t => exact (hslot t (.inl (usesT_mem hx))).symm
          | _ => rfl
        have hmask : ∀ q c, maskF k0 m A b (stF ops k0 b res (preN i)) i q = some c → find (stF ops k0 b res ex).h q = some c := by
          intro q c hk
          unfold maskF at hk
          split at hk
          · cases hk
          split at hk
          · rename_i hr
            split at hk
            · rename_i hc
              have hj : q - k0 ∈ (A.getD i ([], [])).1 := by simpa using hc
              have hji := (f.anc _ hj).1
              have ek : q = k0 + (q - k0) := by omega
              rw [ek] at hk ⊢
              rw [findF_new hb (by omega) _ (mem_preN.2 hji)] at hk
              rw [findF_new hb (by omega) _ (hanc _ hj)]; exact hk
            · cases hk
          · rename_i hr
            rw [findF_old ex (fun q' hq' => by have := hlt q' hq'; omega)]; exact hk
        have hgo : ∀ a' w' β', StR C (putA (addB (stF ops k0 b res ex) (k0 + i) (res i).2) o.dst (res i).1) β' a' w' → (∀ q, q ≠ k0 + i → β' q = β q) → wpAnyIn (wd ro) 0 C.P .any ops (kpost Fin (Kont C.P Cs ro Fin k)) n (listed.setIfInBounds i true) a' w' := by
          intro a' w' β' hst' hβ'
          refine ih (i :: ex) j _ β' a' w' b res sF (by simp; omega) hmj hjs (List.nodup_cons.2 ⟨hnex, hnd⟩) (fun q hq => ?_) (fun q hq o' ho' p hp => ?_) (by simp [hls]) (fun q hq => ?_) (fun q hq hqn => ?_) hb (fun q hq hqn o' ho' => hev q hq (fun h => hqn (List.mem_cons_of_mem _ h)) o' ho') heq hT (by simp only [stF, hdst]; exact hst')
          · rcases List.mem_cons.1 hq with rfl | hq
            · exact him
            · exact hlt q hq
          · have key : (p ∈ ex ∨ (m ≤ p ∧ p < j)) := by
              rcases hq with hq | hq
              · rcases List.mem_cons.1 hq with rfl | hq
                · rw [ho] at ho'; cases ho'; exact hpre p hp
                · exact hcl q (.inl hq) o' ho' p hp
              · exact hcl q (.inr hq) o' ho' p hp
            exact key.elim (fun h => .inl (List.mem_cons_of_mem _ h)) .inr
          · by_cases hqi : i = q
            · subst hqi; simp [Array.getD, hls, hq]
            · have e1 : (listed.setIfInBounds i true).getD q true = listed.getD q true := getD_set_ne true hqi
              rw [e1, hl q hq]
              congr 1
              exact propext ⟨fun h => h.elim (fun h => .inl (List.mem_cons_of_mem _ h)) .inr, fun h => h.elim (fun h => .inl ((List.mem_cons.1 h).resolve_left (fun e => hqi e.symm))) .inr⟩
          · have h1 : q ≠ i := fun e => hqn (e ▸ List.mem_cons_self)
            rw [hβ' _ (by omega)]
            exact hβ q hq (fun h => hqn (List.mem_cons_of_mem _ h))
        have hstep : qopK C.P (evA (stF ops k0 b res (preN i)).t) (maskF k0 m A b (stF ops k0 b res (preN i)) i) o (k0 + i) (fun x y => x = (res i).1 ∧ y = (res i).2) → o.wpIn (wd ro) 0 C.P a w (wpAnyIn (wd ro) 0 C.P .any ops (kpost Fin (Kont C.P Cs ro Fin k)) n (listed.setIfInBounds i true)) (kpost Fin (Kont C.P Cs ro Fin k)) := by
          intro hq
          refine qop_step hst (H := find (stF ops k0 b res ex).h) (fun _ _ h => h) (hβ i him hnex) (fun p hp => ?_) (by rw [(stF_n _).2]; have := hb.1; omega) (qopK_more hops hmask hq) hgo
          rcases stF_hmem.1 hp with ⟨q, hq', c, _, rfl⟩ | hp
          · have : q ≠ i := fun e => hnex (e ▸ hq')
            simp only; omega
          · have := hb.2.1 p hp; omega
        have hevi := hev i him hnex o ho
        unfold wpOpIn
        simp only [ho]
        unfold EvF at hevi
        split at hevi
        · rename_i hg'
          rw [if_pos (wanted_none hg' _)]
          exact hstep hevi
        · rename_i g hg'
          obtain ⟨c, want, hgdd, hyes, hno⟩ := hevi
          obtain ⟨q, want'⟩ := g
          have hgj := f.guard him q want' hg'
          have hwanted : Region.wanted o (yielded ops a.tmps) = decide (c = want) := by
            unfold guardA at hgdd
            rw [hg'] at hgdd
            simp only at hgdd
            split at hgdd
            case h_2 => cases hgdd
            rename_i d hd
            split at hgdd
            case h_3 => cases hgdd
            case h_2 =>
              rename_i hb'
              simp only [Option.some.injEq, Prod.mk.injEq] at hgdd
              obtain ⟨rfl, rfl⟩ := hgdd
              simp only [Region.wanted, hg', yielded, hd, Option.bind_some]
              have hx := hst.tm d
              rw [hslot d (.inr ⟨q, hgj.2, hd⟩), hb'] at hx
              generalize hv : a.tmps.getD d undef = va at hx
              cases hx
              exact wanted_undef hv want'
            rename_i b' hb'
            simp only [Option.some.injEq, Prod.mk.injEq] at hgdd
            obtain ⟨rfl, rfl⟩ := hgdd
            simp only [Region.wanted, hg', yielded, hd, Option.bind_some]
            have hx := hst.tm d
            rw [hslot d (.inr ⟨q, hgj.2, hd⟩), hb'] at hx
            have hu : a.tmps[d]? = some (.bool b') := by
              generalize hv : a.tmps.getD d undef = va at hx
              cases hx
              cases hq : a.tmps[d]? with
              | none =>
                rw [Array.getD_eq_getD_getElem?, hq] at hv
                cases hv
              | some y =>
                rw [Array.getD_eq_getD_getElem?, hq] at hv
                simp only [Option.getD_some] at hv
                rw [hv]
            rw [hu]
            cases b' <;> cases want' <;> rfl
          rw [hwanted]
          by_cases hbw : c = want
          · simp only [hbw, decide_true, if_true]
            exact hstep (hyes hbw)
          · simp only [hbw, decide_false, Bool.false_eq_true, if_false]
            have hr := hno hbw
            refine ⟨fun _ _ => trivial, hgo _ _ β ?_ (fun _ _ => rfl)⟩
            rw [hr]
            exact hst.put (.v _) o.dst
      · -- it writes, early
        have hij : i = j := by
          by_cases hji : j < i
          · rcases f.order (by omega) j hmj hji with hp | hp
            · rcases hpre j hp with h | h
              · have := hlt j h; omega
              · omega
            · rcases hancE j hp with h | h
              · have := hlt j h; omega
              · omega
          · by_cases hij' : i < j
            · exact absurd (.inr ⟨by omega, hij'⟩) hnot
            · omega
        subst hij
        have hmi : m ≤ i := by omega
        have hdr : ops.toList.drop i = o :: ops.toList.drop (i + 1) := by
          rw [List.drop_eq_getElem_cons (by simpa using his)]
          have : ops.toList[i]'(by simpa using his) = o := by
            have h2 := (Array.getElem?_eq_some_iff.1 ho).2
            simpa using h2
          rw [this]
        rw [hdr] at hT
        have hanc : ∀ q, q < m → q ∈ (A.getD i ([], [])).1 → q ∈ ex := fun q hq hqa => by
          rcases hancE q hqa with h | h
          · exact h
          · omega
        have hnf : fullW m A i = false := by
          cases hf : fullW m A i with
          | false => rfl
          | true =>
            have := len_ge (l := ex) (m := m) fun q hq => hanc q hq (fullW_mem hf q hq)
            omega
        obtain ⟨hsd, hearly⟩ := f.early hmi hnf
        have hslot : ∀ t, t ∈ usesT o → sF.t t = (stF ops k0 b res ex).t t := by
          intro t htu
          rw [heq.t]
          by_cases hw : ∃ q, q < m ∧ dstOf ops q = some t ∧ t < b.n
          · obtain ⟨q, hq, hd, htn⟩ := hw
            have hqe := hanc q hq (((hearly q hq).1 t hd).2 htu)
            rw [stF_new hd htn (preN m) (mem_preN.2 hq) (fun q' hq' hne => uniqE hok hq (mem_preN.1 hq') hne hd), stF_new hd htn ex hqe (fun q' hq' hne => uniqE hok hq (hlt q' hq') hne hd)]
          · have hno : ∀ q, q < m → dstOf ops q ≠ some t ∨ ¬ t < b.n := by
              intro q hq
              by_cases h1 : dstOf ops q = some t
              · exact .inr fun h2 => hw ⟨q, hq, h1, h2⟩
              · exact .inl h1
            rw [stF_old (preN m) (fun q hq => hno q (mem_preN.1 hq)), stF_old ex (fun q hq => hno q (hlt q hq))]
        have hops : ∀ x ∈ o.op.operands.toList, evA sF.t x = evA (stF ops k0 b res ex).t x := by
          intro x hx
          cases x with
          | tmp t => exact hslot t (usesT_mem hx)
          | _ => rfl
        have hmask : ∀ q c, maskE k0 m A sF i q = some c → find (stF ops k0 b res ex).h q = some c := by
          intro q c hk
          unfold maskE at hk
          split at hk
          · rename_i hr
            split at hk
            · rename_i hc
              have hj : q - k0 ∈ (A.getD i ([], [])).1 := by simpa using hc
              have ek : q = k0 + (q - k0) := by omega
              rw [heq.find] at hk
              rw [ek] at hk ⊢
              rw [findF_new hb (by omega) _ (mem_preN.2 (by omega))] at hk
              rw [findF_new hb (by omega) _ (hanc _ (by omega) hj)]; exact hk
            · cases hk
          · rename_i hr
            rw [heq.find, findF_old _ (fun q' hq' => by have := mem_preN.1 hq'; omega)] at hk
            rw [findF_old ex (fun q' hq' => by have := hlt q' hq'; omega)]; exact hk
        -- where a name that is there comes from
        have hname : ∀ nn c, find (stF ops k0 b res ex).h nn = some c → ∀ q, q < m → q ∉ ex → k0 + q ≠ nn := by
          intro nn c hc q hq hqn e
          rcases stF_hmem.1 (find_mem hc) with ⟨q', hq', c', _, he⟩ | hp
          · simp only [Prod.mk.injEq] at he
            have : q = q' := by omega
            exact hqn (this ▸ hq')
          · have := hb.2.1 _ hp
            simp only at this; omega
        have hnotA : ∀ q, q < m → q ∉ ex → q ∉ (A.getD i ([], [])).1 := fun q hq hqn h => hqn (hanc q hq h)
        have hexcl : ∀ nn, uOk m A i nn = true → ∀ q, q < m → q ∉ ex → (A.getD q ([], [])).2.contains nn = true := by
          intro nn hu q hq hqn
          unfold uOk at hu
          simp only [List.all_eq_true, List.mem_range, Bool.or_eq_true, List.contains_iff_mem] at hu
          rcases hu q hq with h | h
          · exact absurd h (hnotA q hq hqn)
          · exact List.contains_iff_mem.2 h
        have hlist : ∀ q, q < ops.size → (listed.setIfInBounds i true).getD q true = decide (q ∈ ex ∨ (m ≤ q ∧ q < i + 1)) := by
          intro q hq
          by_cases hqi : i = q
          · subst hqi; simp [Array.getD, hls, hq, hmi]
          · have e1 : (listed.setIfInBounds i true).getD q true = listed.getD q true := getD_set_ne true hqi
            rw [e1, hl q hq]
            congr 1
            exact propext ⟨fun h => h.imp_right (fun h => ⟨h.1, by omega⟩), fun h => h.imp_right (fun h => ⟨h.1, by omega⟩)⟩
        have hcl' : ∀ q, (q ∈ ex ∨ (m ≤ q ∧ q < i + 1)) → ∀ o', ops[q]? = some o' → ∀ p ∈ predsO o', (p ∈ ex ∨ (m ≤ p ∧ p < i + 1)) := by
          intro q hq o' ho' p hp
          have key : (p ∈ ex ∨ (m ≤ p ∧ p < i)) := by
            by_cases hqi : q = i
            · subst hqi
              rw [ho] at ho'; cases ho'; exact hpre p hp
            · exact hcl q (hq.imp_right (fun h => ⟨h.1, by omega⟩)) o' ho' p hp
          exact key.imp_right (fun h => ⟨h.1, by omega⟩)
        unfold tailE at hT
        rw [if_neg (by rw [hnf]; simp)] at hT
        unfold wpOpIn
        simp only [ho]
        rw [if_pos (wanted_none (f.noguard hmi) _)]
        split at hT
        · rename_i t p x hop
          have hp1 : p ∈ o.op.operands.toList := by rw [hop]; simp [Op.operands]
          have hx1 : x ∈ o.op.operands.toList := by rw [hop]; simp [Op.operands]
          have hs := stK_find (stK_more (hops p hp1) (hops x hx1) hmask (fun _ _ h => h) hT)
          obtain ⟨nn, c, w', ⟨⟨hu, hT'⟩, c0, hc0⟩, hrun, hst'⟩ := stK_sound hst hop hs
          refine ⟨fun _ _ => trivial, ?_⟩
          rw [Oper.semAt_eq _ _ _ (fun c hc => by rw [hop] at hc; cases hc), hrun]
          have hdn := hsd t p x hop
          show wpAnyIn (wd ro) 0 C.P .any ops (kpost Fin (Kont C.P Cs ro Fin k)) n (listed.setIfInBounds i true) (a.put o.dst undef) w'
          rw [hdn]
          refine ih ex (i + 1) _ β _ w' { b with h := setN b.h nn c } (resS k0 nn c res) { sF with h := setN sF.h nn c } (by omega) (by omega) (by omega) hnd hlt hcl' (by simp [hls]) hlist hβ (hb.set nn c)
            (fun q hq hqn o' ho' => EvF_ver (b := b) (b' := { b with h := setN b.h nn c }) (res := res) (res' := resS k0 nn c res) hok hq ho' (by rfl) (fun _ => rfl) ?_ (fun _ _ => rfl) (fun d n' he _ hf => ?_) (fun q' hq' he => ?_) hb (hb.set nn c) (hev q hq hqn o' ho')) ?_ hT' ?_
          · have : k0 + q ≠ nn := hname nn c0 hc0 q hq hqn
            simp only [resS, if_neg this]
          · have hne : n' ≠ nn := fun e => by subst e; rw [hexcl n' hu q hq hqn] at he; cases he
            simp only
            rw [find_setN_ne hne]; exact hf
          · have hne : k0 + q' ≠ nn := fun e => by rw [e, hexcl nn hu q hq hqn] at he; cases he
            simp only [resS, if_neg hne]
          · rw [stF_set]; exact heq.set nn c
          · rw [stF_set]; exact hst'
        · rename_i xs ts hop
          have hs := apK_find (apK_more (fun x hx => hops x (by rw [hop]; simp only [Op.operands, Call.operands]; rw [Array.toList_append]; exact List.mem_append_right _ hx)) hmask hT)
          obtain ⟨ns, z, l, u, w', β', ⟨⟨hu, hT'⟩, hfd⟩, hrun, hst', hR, hβ'⟩ := apK_sound hst hop hs
          refine ⟨fun _ _ => trivial, ?_⟩
          rw [Oper.semAt_eq _ _ _ (fun c hc => by rw [hop] at hc; cases hc), hrun]
          show wpAnyIn (wd ro) 0 C.P .any ops (kpost Fin (Kont C.P Cs ro Fin k)) n (listed.setIfInBounds i true) (a.put o.dst u) w'
          have hXk : (stF ops k0 b res ex).k = b.k := (stF_n ex).2
          have hsk : sF.k = b.k := heq.k.trans (stF_n _).2
          have hb2 := hb.drop ns
          have hdd : ∀ q, q < m → ∀ t, o.dst = some t → dstOf ops q ≠ some t := fun q hq t ht hd => ((hearly q hq).1 t hd).1 ht
          have hb1 := hb2.push ⟨z, l⟩ o.dst (.sl b.k 0 l.length)
          have hlk : ∀ p ∈ (stF ops k0 b res (preN m)).h, p.1 < (stF ops k0 b res (preN m)).k := fun p hp => by
            rw [(stF_n _).2]
            have := hb.1
            rcases stF_hmem.1 hp with ⟨q, hq', c', _, rfl⟩ | hp
            · have := mem_preN.1 hq'
              simp only; omega
            · have := hb.2.1 p hp; omega
          refine ih ex (i + 1) _ β' _ w' (putA (pushA { b with h := dropN ns b.h } ⟨z, l⟩) o.dst (.sl b.k 0 l.length)) (resD k0 ns res) _ (by omega) (by omega) (by omega) hnd hlt hcl' (by simp [hls]) hlist (fun q hq hqn => ?_) hb1
            (fun q hq hqn o' ho' => EvF_ver (b := b) (res := res) (res' := resD k0 ns res) hok hq ho' ?_ (fun _ => rfl) ?_ (fun t ht => ?_) (fun d n' he _ hf => ?_) (fun q' hq' he => ?_) hb hb1 (hev q hq hqn o' ho')) ?_ hT' ?_
          · rw [hβ' _ (by rw [hXk]; have := hb.1; omega)]; exact hβ q hq hqn
          · rw [(putA_h _ _ _).2.1]; rfl
          · have : ¬ (k0 + q) ∈ ns := fun h => by
              obtain ⟨c0, hc0⟩ := hfd _ h
              exact hname _ c0 hc0 q hq hqn rfl
            have h2 : ns.contains (k0 + q) = false := by simpa using this
            simp only [resD, h2, Bool.false_eq_true, if_false]
          · rw [putA_get]
            have : ¬ (o.dst = some t ∧ t < (pushA { b with h := dropN ns b.h } ⟨z, l⟩).n) := fun e => by
              rcases ht with ht | ⟨q', hq', hd'⟩
              · exact (hearly q hq).2 t o' e.1 ho' ht
              · exact hdd q' hq' t e.1 hd'
            rw [if_neg this]; rfl
          · have hnb := hb.2.1 _ (find_mem hf)
            have hnk := hb.1
            have hnn : n' ∉ ns := fun h => by rw [hexcl n' (hu n' h) q hq hqn] at he; cases he
            rw [(putA_h _ _ _).1]
            simp only [pushA, find]
            rw [if_neg (by simp only at hnb; omega), find_dropN hnn]; exact hf
          · have hnn : ¬ (k0 + q') ∈ ns := fun h => by rw [hexcl _ (hu _ h) q hq hqn] at he; cases he
            have h2 : ns.contains (k0 + q') = false := by simpa using hnn
            simp only [resD, h2, Bool.false_eq_true, if_false]
          · have e1 := ((heq.drop ns).push (fun p hp => hlk p (mem_dropN.1 hp).1) ⟨z, l⟩).put o.dst (.sl sF.k 0 l.length)
            rw [← stF_drop] at e1
            refine e1.trans ?_
            rw [hsk]
            exact (stF_push (res := resD k0 ns res) hb2 ⟨z, l⟩ o.dst (.sl b.k 0 l.length) (preN_nd m) (fun q hq => mem_preN.1 hq) hok (fun q hq => hdd q (mem_preN.1 hq))).symm
          · have e1 := stF_push (res := resD k0 ns res) hb2 ⟨z, l⟩ o.dst (.sl b.k 0 l.length) hnd hlt hok (fun q hq => hdd q (hlt q hq))
            refine e1.stR ?_
            rw [stF_drop]
            have hv : AV.sl (stF ops k0 b res ex).k 0 l.length = AV.sl b.k 0 l.length := by rw [hXk]
            rw [hv] at hR
            exact hst'.put hR o.dst
        · exact hT.elim
end

/-- **THE RULE** for a drawn region in which something may be written before all that is only looked at has come up. -/
theorem AtCode.drawE {P : Program} {rec : List It → (AState → Prop) → AState → Prop} {id : Nat} {ops : Array Oper} {k : List It} {Q : AState → Prop} {s : AState} (m : Nat) (A : List (List Nat × List Nat)) (hok : drawEk ops m A = true)
    (h : vcQ P A ops s (tailE P A ops m s.k rec k Q (ops.toList.drop m) m) (ops.toList.take m) 0 { s with k := s.k + m }) : AtCode P rec (.region id ops true) k Q s := by
  intro ro Cs Fin hg hm hrec hQ a w hs
  obtain ⟨C, hC, β, hst⟩ := hs
  refine wpIn_region_any hm ?_
  have hms := drawEk_m hok
  have hlen : (ops.toList.take m).length = m := by simp; omega
  obtain ⟨res, h1, h2, h3⟩ := vcQ_res (A := A) (ops := ops) (s0 := s) (m := m) (ops.toList.take m) 0 (fun _ => (.unk, none)) (fun q hq => by
    rw [hlen] at hq
    rw [List.getElem?_take_of_lt hq, Nat.zero_add, Array.getElem?_toList]) h
  rw [hlen, Nat.zero_add] at h3
  have hst0 : StR C (stF ops s.k { s with k := s.k + m } res []) β a { w with drawn := w.drawn + 1 } := by
    have hsame := hst.same (w' := { w with drawn := w.drawn + 1 }) rfl rfl rfl rfl
    refine ⟨hsame.defers, hsame.size, hsame.tm, hsame.own, fun p hp => ?_, fun q r hr => ?_, hsame.nd, hsame.inj, hsame.mine, hsame.fr, hsame.Flt, hsame.sv, hsame.yy⟩
    · have := hsame.lt p hp; simp only [stF]; omega
    · have := hsame.βlt q r hr; simp only [stF]; omega
  have hb : Base s.k m { s with k := s.k + m } := ⟨Nat.le_refl _, fun p hp => .inl (hst.lt p hp), hst.nd⟩
  refine drawE_any hg hrec hQ hok hC ops.size [] m _ β a _ { s with k := s.k + m } res _ (by simp) (Nat.le_refl _) hms List.nodup_nil (by simp) (fun i hi => ?_) (by simp) (fun i hi => by simp [Array.getD, hi]) (fun q hq _ => ?_) hb (fun i hi _ o ho => ?_) ?_ h3 hst0
  · rcases hi with hi | hi
    · simp at hi
    · omega
  · cases hb : β (s.k + q) with
    | none => rfl
    | some r => exact absurd (hst.βlt _ _ hb) (by omega)
  · have hev := h2 i o (by rw [hlen]; exact hi) (by simpa using ho)
    rw [Nat.zero_add] at hev
    exact EvO_F hst.lt (fun j hj => by have := ((factsE hok ho).anc j hj).1; omega) hev
  · rw [stE_stF]
    have hnd := stF_nd (ops := ops) (res := res) hb (preN m) (preN_nd m) (fun q hq => mem_preN.1 hq)
    exact ⟨rfl, rfl, rfl, fun _ => rfl, fun _ => Iff.rfl, hnd, hnd⟩
end Go.Eng
