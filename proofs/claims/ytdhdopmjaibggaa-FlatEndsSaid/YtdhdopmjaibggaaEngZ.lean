/- The engine, part Z: drawn regions in which something is written before all that is only looked at has come up. -/
import Derived.Test.YtdhdopmjaibggaaEngY
set_option linter.unusedSimpArgs false
set_option linter.unusedVariables false
namespace Go.Eng
open Go Go.RowKit

/-! ### States that differ by the order of their blocks alone -/
structure EqS (s s' : AState) : Prop where
  n : s.n = s'.n
  k : s.k = s'.k
  x : s.x = s'.x
  t : ∀ i, s.t i = s'.t i
  m : ∀ p, p ∈ s.h ↔ p ∈ s'.h
  nd : (s.h.map (·.1)).Nodup
  nd' : (s'.h.map (·.1)).Nodup

theorem find_iff {h : List (Nat × Blk)} (hnd : (h.map (·.1)).Nodup) (n : Nat) (b : Blk) : find h n = some b ↔ (n, b) ∈ h := by
  induction h with
  | nil => simp [find]
  | cons p r ih =>
    obtain ⟨m, c⟩ := p
    simp only [List.map_cons, List.nodup_cons] at hnd
    simp only [find, List.mem_cons, Prod.mk.injEq]
    by_cases hm : m = n
    · subst hm
      rw [if_pos rfl]
      constructor
      · intro e; exact .inl ⟨rfl, (Option.some.inj e).symm⟩
      · rintro (⟨_, e⟩ | h)
        · rw [e]
        · exact absurd (List.mem_map_of_mem h) hnd.1
    · rw [if_neg hm, ih hnd.2]
      constructor
      · exact .inr
      · rintro (⟨e, _⟩ | h)
        · exact absurd e.symm hm
        · exact h

theorem EqS.find {s s' : AState} (e : EqS s s') (n : Nat) : find s.h n = find s'.h n := by
  have : ∀ b, Eng.find s.h n = some b ↔ Eng.find s'.h n = some b := fun b => by rw [find_iff e.nd, find_iff e.nd', e.m]
  cases h : Eng.find s.h n with
  | some b => exact ((this b).1 h).symm
  | none =>
    cases h' : Eng.find s'.h n with
    | none => rfl
    | some b => rw [(this b).2 h'] at h; cases h

theorem EqS.stR {C : Ctx} {s s' : AState} {β : Bt} {a : Act} {w : World} (e : EqS s s') (h : StR C s' β a w) : StR C s β a w := by
  have := h.hmem (h' := s.h) (t' := s.t) e.m e.nd e.t
  obtain ⟨n, t, hh, k, x⟩ := s
  obtain ⟨n', t', hh', k', x'⟩ := s'
  have e1 := e.n; have e2 := e.k; have e3 := e.x
  simp only at e1 e2 e3 this
  subst e1; subst e2; subst e3
  exact this

theorem mem_setN_iff {h : List (Nat × Blk)} (n : Nat) (k : Blk) (p : Nat × Blk) : p ∈ setN h n k ↔ (p ∈ h ∧ p.1 ≠ n) ∨ (p = (n, k) ∧ ∃ q ∈ h, q.1 = n) := by
  unfold setN
  rw [List.mem_map]
  constructor
  · rintro ⟨q, hq, rfl⟩
    by_cases hn : q.1 = n
    · rw [if_pos hn]; exact .inr ⟨rfl, q, hq, hn⟩
    · rw [if_neg hn]; exact .inl ⟨hq, hn⟩
  · rintro (⟨hp, hn⟩ | ⟨rfl, q, hq, hn⟩)
    · exact ⟨p, hp, by rw [if_neg hn]⟩
    · exact ⟨q, hq, by rw [if_pos hn]⟩

theorem EqS.set {s s' : AState} (e : EqS s s') (n : Nat) (k : Blk) : EqS { s with h := setN s.h n k } { s' with h := setN s'.h n k } :=
  ⟨e.n, e.k, e.x, e.t, fun p => by simp only [mem_setN_iff, e.m], by simp only [setN_names]; exact e.nd, by simp only [setN_names]; exact e.nd'⟩

theorem EqS.put {s s' : AState} (e : EqS s s') (d : Option Nat) (v : AV) : EqS (putA s d v) (putA s' d v) := by
  refine ⟨by rw [(putA_h _ _ _).2.1, (putA_h _ _ _).2.1]; exact e.n, by rw [(putA_h _ _ _).2.2, (putA_h _ _ _).2.2]; exact e.k, by rw [putA_x, putA_x]; exact e.x, fun i => by rw [putA_get, putA_get, e.n, e.t], ?_, ?_, ?_⟩
  · rw [(putA_h _ _ _).1, (putA_h _ _ _).1]; exact e.m
  · rw [(putA_h _ _ _).1]; exact e.nd
  · rw [(putA_h _ _ _).1]; exact e.nd'

theorem dropN_nodup {h : List (Nat × Blk)} (ns : List Nat) (hnd : (h.map (·.1)).Nodup) : ((dropN ns h).map (·.1)).Nodup :=
  List.Nodup.sublist (List.Sublist.map _ List.filter_sublist) hnd
theorem EqS.drop {s s' : AState} (e : EqS s s') (ns : List Nat) : EqS { s with h := dropN ns s.h } { s' with h := dropN ns s'.h } :=
  ⟨e.n, e.k, e.x, e.t, fun p => by simp only [mem_dropN, e.m], dropN_nodup ns e.nd, dropN_nodup ns e.nd'⟩
theorem EqS.push {s s' : AState} (e : EqS s s') (hlt : ∀ p ∈ s'.h, p.1 < s'.k) (b : Blk) : EqS (pushA s b) (pushA s' b) := by
  have hlt' : ∀ p ∈ s.h, p.1 < s.k := fun p hp => by rw [e.k]; exact hlt p ((e.m p).1 hp)
  refine ⟨e.n, by simp only [pushA, e.k], e.x, e.t, fun p => by simp only [pushA, List.mem_cons, e.m, e.k], ?_, ?_⟩
  · simp only [pushA, List.map_cons, List.nodup_cons]
    refine ⟨fun hm => ?_, e.nd⟩
    obtain ⟨p, hp, he⟩ := List.mem_map.1 hm
    have := hlt' p hp; omega
  · simp only [pushA, List.map_cons, List.nodup_cons]
    refine ⟨fun hm => ?_, e.nd'⟩
    obtain ⟨p, hp, he⟩ := List.mem_map.1 hm
    have := hlt p hp; omega

/-! ### The state behind some of the operations, on a state that may have been written -/
section
variable (ops : Array Oper) (k0 : Nat) (b : AState) (res : Nat → AV × Option Blk)
def stF : List Nat → AState
  | [] => b
  | i :: r => putA (addB (stF r) (k0 + i) (res i).2) (dstOf ops i) (res i).1
end

section
variable {ops : Array Oper} {k0 m : Nat} {b b' : AState} {res res' : Nat → AV × Option Blk}

theorem stF_n : ∀ l, (stF ops k0 b res l).n = b.n ∧ (stF ops k0 b res l).k = b.k
  | [] => ⟨rfl, rfl⟩
  | i :: r => by
    obtain ⟨h1, h2⟩ := stF_n r
    simp only [stF, putA_h, addB_t]
    exact ⟨h1, h2⟩
theorem stF_x : ∀ l, (stF ops k0 b res l).x = b.x
  | [] => rfl
  | i :: r => by
    have h1 := stF_x r
    simp only [stF, putA_x, addB_x]
    exact h1
/-- The slots: by the answers alone. -/
theorem stF_t {t : Nat} (hn : b.n = b'.n) (ht : b.t t = b'.t t) (hr : ∀ i, (res i).1 = (res' i).1) : ∀ l, (stF ops k0 b res l).t t = (stF ops k0 b' res' l).t t
  | [] => ht
  | i :: r => by
    simp only [stF]
    rw [putA_get, putA_get, (addB_t _ _ _).2.1, (addB_t _ _ _).2.1, (stF_n r).1, (stF_n r).1, hn, hr, (addB_t _ _ _).1, (addB_t _ _ _).1, stF_t hn ht hr r]
theorem stF_old {t : Nat} : ∀ l, (∀ j ∈ l, dstOf ops j ≠ some t ∨ ¬ t < b.n) → (stF ops k0 b res l).t t = b.t t
  | [], _ => rfl
  | i :: r, h => by
    have hi := h i List.mem_cons_self
    simp only [stF]
    have hc : ¬ (dstOf ops i = some t ∧ t < b.n) := by
      rintro ⟨e1, e2⟩
      rcases hi with h1 | h1
      · exact h1 e1
      · exact h1 e2
    rw [putA_get, (addB_t _ _ _).2.1, (stF_n r).1, (addB_t _ _ _).1, stF_old r (fun j hj => h j (List.mem_cons_of_mem _ hj)), if_neg hc]
theorem stF_new {t i : Nat} (hd : dstOf ops i = some t) (ht : t < b.n) : ∀ l, i ∈ l → (∀ j ∈ l, j ≠ i → dstOf ops j ≠ some t) → (stF ops k0 b res l).t t = (res i).1
  | [], h, _ => by simp at h
  | j :: r, h, hu => by
    simp only [stF]
    rw [putA_get, (addB_t _ _ _).2.1, (stF_n r).1, (addB_t _ _ _).1]
    by_cases hji : j = i
    · subst hji; rw [if_pos ⟨hd, ht⟩]
    · have hc : ¬ (dstOf ops j = some t ∧ t < b.n) := fun e => hu j List.mem_cons_self hji e.1
      rw [if_neg hc]
      exact stF_new hd ht r ((List.mem_cons.1 h).resolve_left (Ne.symm hji)) (fun q hq => hu q (List.mem_cons_of_mem _ hq))
theorem stF_h : ∀ l, (stF ops k0 b res l).h = (l.filterMap fun i => (res i).2.map fun c => (k0 + i, c)) ++ b.h
  | [] => rfl
  | i :: r => by
    simp only [stF]
    rw [(putA_h _ _ _).1]
    cases hb : (res i).2 with
    | none => simp [addB, hb, stF_h r]
    | some c => simp [addB, hb, stF_h r]
theorem stF_hmem {l : List Nat} {p : Nat × Blk} : p ∈ (stF ops k0 b res l).h ↔ (∃ i ∈ l, ∃ c, (res i).2 = some c ∧ p = (k0 + i, c)) ∨ p ∈ b.h := by
  rw [stF_h, List.mem_append, List.mem_filterMap]
  constructor
  · rintro (⟨i, hi, he⟩ | hp)
    · rw [Option.map_eq_some_iff] at he
      obtain ⟨c, hc, e⟩ := he
      exact .inl ⟨i, hi, c, hc, e.symm⟩
    · exact .inr hp
  · rintro (⟨i, hi, c, hc, rfl⟩ | hp)
    · exact .inl ⟨i, hi, by rw [hc]; rfl⟩
    · exact .inr hp
/-- Where the names of the state's own blocks lie. -/
def Base (k0 m : Nat) (b : AState) : Prop := k0 + m ≤ b.k ∧ (∀ p ∈ b.h, p.1 < k0 ∨ (k0 + m ≤ p.1 ∧ p.1 < b.k)) ∧ (b.h.map (·.1)).Nodup
theorem stF_nd (h0 : Base k0 m b) : ∀ l : List Nat, l.Nodup → (∀ i ∈ l, i < m) → ((stF ops k0 b res l).h.map (·.1)).Nodup := by
  intro l
  rw [stF_h]
  induction l with
  | nil => intro _ _; simpa using h0.2.2
  | cons i r ih =>
    intro hl hlt
    obtain ⟨h1, h2⟩ := List.nodup_cons.1 hl
    have hr : ∀ j ∈ r, j < m := fun j hj => hlt j (List.mem_cons_of_mem _ hj)
    cases hb : (res i).2 with
    | none => simp only [List.filterMap_cons, hb, Option.map_none]; exact ih h2 hr
    | some c =>
      simp only [List.filterMap_cons, hb, Option.map_some, List.cons_append, List.map_cons, List.nodup_cons]
      refine ⟨fun hm => ?_, ih h2 hr⟩
      obtain ⟨p, hp, he⟩ := List.mem_map.1 hm
      rw [List.mem_append] at hp
      rcases hp with hp | hp
      · simp only [List.mem_filterMap, Option.map_eq_some_iff] at hp
        obtain ⟨q, hq, c', _, rfl⟩ := hp
        simp only at he
        have : q = i := by omega
        exact h1 (this ▸ hq)
      · have := h0.2.1 p hp
        have := hlt i List.mem_cons_self
        omega
theorem findF_old {n : Nat} (l : List Nat) (hn : ∀ i ∈ l, k0 + i ≠ n) : find (stF ops k0 b res l).h n = find b.h n := by
  rw [stF_h]
  refine find_app _ _ _ fun p hp => ?_
  simp only [List.mem_filterMap, Option.map_eq_some_iff] at hp
  obtain ⟨i, hi, c, _, rfl⟩ := hp
  exact hn i hi
theorem findF_new (h0 : Base k0 m b) {j : Nat} (hj : j < m) : ∀ (l : List Nat), j ∈ l → find (stF ops k0 b res l).h (k0 + j) = (res j).2 := by
  intro l
  rw [stF_h]
  induction l with
  | nil => intro h; simp at h
  | cons i r ih =>
    intro h
    by_cases hij : i = j
    · subst hij
      cases hb : (res i).2 with
      | some c => simp [hb, find]
      | none =>
        simp only [List.filterMap_cons, hb, Option.map_none]
        by_cases hr : i ∈ r
        · rw [ih hr, hb]
        · refine find_none _ _ fun p hp => ?_
          rw [List.mem_append] at hp
          rcases hp with hp | hp
          · simp only [List.mem_filterMap, Option.map_eq_some_iff] at hp
            obtain ⟨q, hq, c, _, rfl⟩ := hp
            simp only
            intro e
            have : q = i := by omega
            exact hr (this ▸ hq)
          · have := h0.2.1 p hp; omega
    · have hr : j ∈ r := (List.mem_cons.1 h).resolve_left (Ne.symm hij)
      cases hb : (res i).2 with
      | none => simp only [List.filterMap_cons, hb, Option.map_none]; exact ih hr
      | some c =>
        simp only [List.filterMap_cons, hb, Option.map_some, List.cons_append, find]
        rw [if_neg (by omega)]
        exact ih hr

/-- A block is written. -/
def resS (k0 n : Nat) (c : Blk) (res : Nat → AV × Option Blk) : Nat → AV × Option Blk := fun q => ((res q).1, if k0 + q = n then (res q).2.map fun _ => c else (res q).2)
theorem putA_with (s : AState) (d : Option Nat) (v : AV) (h : List (Nat × Blk)) : putA { s with h := h } d v = { putA s d v with h := h } := by
  cases d with
  | none => rfl
  | some d => simp only [putA]; split <;> rfl
theorem stF_set (n : Nat) (c : Blk) : ∀ l, stF ops k0 { b with h := setN b.h n c } (resS k0 n c res) l = { stF ops k0 b res l with h := setN (stF ops k0 b res l).h n c }
  | [] => rfl
  | i :: r => by
    simp only [stF]
    rw [stF_set n c r]
    have e1 : (resS k0 n c res i).1 = (res i).1 := rfl
    rw [e1]
    have hh := (putA_h (addB (stF ops k0 b res r) (k0 + i) (res i).2) (dstOf ops i) (res i).1).1
    rw [hh]
    cases hr : (res i).2 with
    | none =>
      have e2 : (resS k0 n c res i).2 = none := by simp [resS, hr]
      rw [e2]
      simp only [addB]
      exact putA_with _ _ _ _
    | some d =>
      have e2 : (resS k0 n c res i).2 = some (if k0 + i = n then c else d) := by simp only [resS, hr, Option.map_some]; split <;> rfl
      rw [e2]
      simp only [addB]
      rw [← putA_with]
      congr 1
      simp only [setN, List.map_cons]
      by_cases hn : k0 + i = n
      · simp [hn]
      · simp [hn]
/-- Blocks are used up. -/
def resD (k0 : Nat) (ns : List Nat) (res : Nat → AV × Option Blk) : Nat → AV × Option Blk := fun q => ((res q).1, if ns.contains (k0 + q) then none else (res q).2)
theorem stF_drop (ns : List Nat) : ∀ l, stF ops k0 { b with h := dropN ns b.h } (resD k0 ns res) l = { stF ops k0 b res l with h := dropN ns (stF ops k0 b res l).h }
  | [] => rfl
  | i :: r => by
    simp only [stF]
    rw [stF_drop ns r]
    have e1 : (resD k0 ns res i).1 = (res i).1 := rfl
    rw [e1]
    have hh := (putA_h (addB (stF ops k0 b res r) (k0 + i) (res i).2) (dstOf ops i) (res i).1).1
    rw [hh]
    cases hr : (res i).2 with
    | none =>
      have e2 : (resD k0 ns res i).2 = none := by simp [resD, hr]
      rw [e2]
      simp only [addB]
      exact putA_with _ _ _ _
    | some d =>
      simp only [addB]
      rw [dropN_cons]
      by_cases hn : ns.contains (k0 + i) = true
      · have e2 : (resD k0 ns res i).2 = none := by simp only [resD, if_pos hn]
        rw [e2, if_pos hn]
        rw [putA_with]
        have : putA { stF ops k0 b res r with h := (k0 + i, d) :: (stF ops k0 b res r).h } (dstOf ops i) (res i).1 = { putA (stF ops k0 b res r) (dstOf ops i) (res i).1 with h := (k0 + i, d) :: (stF ops k0 b res r).h } := putA_with _ _ _ _
        rw [this]
      · have e2 : (resD k0 ns res i).2 = some d := by simp only [resD, if_neg hn, hr]
        rw [e2, if_neg hn]
        simp only
        rw [← putA_with]
end

theorem stF_congrB {ops : Array Oper} {k0 m : Nat} {b : AState} {res res' : Nat → AV × Option Blk} : ∀ (l : List Nat), (∀ i ∈ l, res i = res' i) → stF ops k0 b res l = stF ops k0 b res' l
  | [], _ => rfl
  | i :: r, h => by
    simp only [stF]
    rw [stF_congrB (m := m) r (fun j hj => h j (List.mem_cons_of_mem _ hj)), h i List.mem_cons_self]
theorem stE_stF {ops : Array Oper} {s0 : AState} {m : Nat} {res : Nat → AV × Option Blk} : ∀ l, stE ops s0 m res l = stF ops s0.k { s0 with k := s0.k + m } res l
  | [] => rfl
  | i :: r => by simp only [stE, stF, stE_stF r]

/-- What an operation may look at. -/
def maskF (k0 m : Nat) (A : List (List Nat × List Nat)) (b s : AState) (i : Nat) : Nat → Option Blk :=
  fun k => if (A.getD i ([], [])).2.contains k then none else if k0 ≤ k ∧ k < k0 + m then (if (A.getD i ([], [])).1.contains (k - k0) then find s.h k else none) else find b.h k

def EvF (P : Program) (A : List (List Nat × List Nat)) (ops : Array Oper) (k0 m : Nat) (b : AState) (res : Nat → AV × Option Blk) (i : Nat) (o : Oper) : Prop :=
  match o.guard with
  | none => qopK P (evA (stF ops k0 b res (preN i)).t) (maskF k0 m A b (stF ops k0 b res (preN i)) i) o (k0 + i) (fun x y => x = (res i).1 ∧ y = (res i).2)
  | some _ => ∃ c want, guardA ops (stF ops k0 b res (preN i)).t o = some (c, want) ∧
      (c = want → qopK P (evA (stF ops k0 b res (preN i)).t) (maskF k0 m A b (stF ops k0 b res (preN i)) i) o (k0 + i) (fun x y => x = (res i).1 ∧ y = (res i).2)) ∧ (c ≠ want → res i = (un, none))

theorem EvO_F {P : Program} {A : List (List Nat × List Nat)} {ops : Array Oper} {s0 : AState} {m : Nat} {res : Nat → AV × Option Blk} {i : Nat} {o : Oper} (hlt : ∀ p ∈ s0.h, p.1 < s0.k) (hA : ∀ j ∈ (A.getD i ([], [])).1, j < m) (h : EvO P A ops s0 m res i o) :
    EvF P A ops s0.k m { s0 with k := s0.k + m } res i o := by
  have hm : ∀ s, maskH s0 s A i = maskF s0.k m A { s0 with k := s0.k + m } s i := by
    intro s
    funext k
    unfold maskH maskF
    by_cases h1 : (A.getD i ([], [])).2.contains k = true
    · rw [if_pos h1, if_pos h1]
    · rw [if_neg h1, if_neg h1]
      by_cases h2 : k < s0.k
      · rw [if_pos h2, if_neg (by omega)]
      · rw [if_neg h2]
        by_cases h3 : k < s0.k + m
        · have hc : s0.k ≤ k ∧ k < s0.k + m := ⟨by omega, h3⟩
          rw [if_pos hc]
        · have hc : ¬ (s0.k ≤ k ∧ k < s0.k + m) := fun h => h3 h.2
          have : (A.getD i ([], [])).1.contains (k - s0.k) = false := by
            cases hc : (A.getD i ([], [])).1.contains (k - s0.k) with
            | false => rfl
            | true => have := hA _ (List.contains_iff_mem.1 hc); omega
          rw [if_neg hc, this]
          simp only [Bool.false_eq_true, if_false]
          exact (find_none _ _ fun p hp => by have := hlt p hp; omega).symm
  unfold EvO at h
  unfold EvF
  simp only [stE_stF, hm] at h
  exact h
end Go.Eng
