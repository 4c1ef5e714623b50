/- The engine, part O: whatever order is drawn, the walk in the text's order tells the end. -/
import Derived.Test.YtdhdopmjaibggaaEngN
set_option linter.unusedSimpArgs false
set_option linter.unusedVariables false
namespace Go.Eng
open Go Go.RowKit

section
variable (ops : Array Oper) (s0 : AState) (m : Nat) (res : Nat → AV × Option Blk)
/-- The state when these operations (the last one first) have been carried out. -/
def stE : List Nat → AState
  | [] => { s0 with k := s0.k + m }
  | i :: r => putA (addB (stE r) (s0.k + i) (res i).2) (dstOf ops i) (res i).1

def preN : Nat → List Nat
  | 0 => []
  | i + 1 => i :: preN i
end

section
variable {ops : Array Oper} {s0 : AState} {m : Nat} {res res' : Nat → AV × Option Blk}

theorem mem_preN {i j : Nat} : j ∈ preN i ↔ j < i := by
  induction i with
  | zero => simp [preN]
  | succ i ih => simp only [preN, List.mem_cons, ih]; omega

theorem stE_congr : ∀ (l : List Nat), (∀ i ∈ l, res i = res' i) → stE ops s0 m res l = stE ops s0 m res' l
  | [], _ => rfl
  | i :: r, h => by
    simp only [stE]
    rw [stE_congr r (fun j hj => h j (List.mem_cons_of_mem _ hj)), h i List.mem_cons_self]

theorem addB_t (s : AState) (n : Nat) (b : Option Blk) : (addB s n b).t = s.t ∧ (addB s n b).n = s.n ∧ (addB s n b).k = s.k := by cases b <;> simp [addB]
theorem putA_h (s : AState) (d : Option Nat) (x : AV) : (putA s d x).h = s.h ∧ (putA s d x).n = s.n ∧ (putA s d x).k = s.k := by
  cases d with
  | none => simp [putA]
  | some d => simp only [putA]; split <;> simp

theorem stE_n : ∀ l, (stE ops s0 m res l).n = s0.n ∧ (stE ops s0 m res l).k = s0.k + m
  | [] => ⟨rfl, rfl⟩
  | i :: r => by
    obtain ⟨h1, h2⟩ := stE_n r
    simp only [stE, putA_h, addB_t]
    exact ⟨h1, h2⟩

theorem addB_x (s : AState) (n : Nat) (b : Option Blk) : (addB s n b).x = s.x := by cases b <;> simp [addB]
theorem putA_x (s : AState) (d : Option Nat) (x : AV) : (putA s d x).x = s.x := by
  cases d with
  | none => simp [putA]
  | some d => simp only [putA]; split <;> simp
theorem stE_x : ∀ l, (stE ops s0 m res l).x = s0.x
  | [] => rfl
  | i :: r => by
    have h1 := stE_x r
    simp only [stE, putA_x, addB_x]
    exact h1

theorem putA_get (s : AState) (d : Option Nat) (x : AV) (t : Nat) : (putA s d x).t t = if d = some t ∧ t < s.n then x else s.t t := by
  cases d with
  | none => simp [putA]
  | some d =>
    simp only [putA, Option.some.injEq]
    by_cases hd : d < s.n
    · rw [if_pos hd]
      simp only [upd]
      by_cases ht : t = d
      · subst ht; simp [hd]
      · rw [if_neg ht, if_neg (fun e => ht e.1.symm)]
    · have hc : ¬ (d = t ∧ t < s.n) := fun e => hd (by rw [e.1]; exact e.2)
      rw [if_neg hd, if_neg hc]

/-- A slot that none of them has. -/
theorem stE_old {t : Nat} : ∀ l, (∀ j ∈ l, dstOf ops j ≠ some t ∨ ¬ t < s0.n) → (stE ops s0 m res l).t t = s0.t t
  | [], _ => rfl
  | i :: r, h => by
    have hi := h i List.mem_cons_self
    simp only [stE]
    have hc : ¬ (dstOf ops i = some t ∧ t < s0.n) := by
      rintro ⟨e1, e2⟩
      rcases hi with h1 | h1
      · exact h1 e1
      · exact h1 e2
    rw [putA_get, (addB_t _ _ _).2.1, (stE_n r).1, (addB_t _ _ _).1, stE_old r (fun j hj => h j (List.mem_cons_of_mem _ hj)), if_neg hc]

/-- A slot that one of them has. -/
theorem stE_new {t i : Nat} (hd : dstOf ops i = some t) (ht : t < s0.n) : ∀ l, i ∈ l → (∀ j ∈ l, j ≠ i → dstOf ops j ≠ some t) → (stE ops s0 m res l).t t = (res i).1
  | [], h, _ => by simp at h
  | j :: r, h, hu => by
    simp only [stE]
    rw [putA_get, (addB_t _ _ _).2.1, (stE_n r).1, (addB_t _ _ _).1]
    by_cases hji : j = i
    · subst hji; rw [if_pos ⟨hd, ht⟩]
    · have hc : ¬ (dstOf ops j = some t ∧ t < s0.n) := fun e => hu j List.mem_cons_self hji e.1
      rw [if_neg hc]
      exact stE_new hd ht r ((List.mem_cons.1 h).resolve_left (Ne.symm hji)) (fun q hq => hu q (List.mem_cons_of_mem _ hq))

theorem stE_h : ∀ l, (stE ops s0 m res l).h = (l.filterMap fun i => (res i).2.map fun b => (s0.k + i, b)) ++ s0.h
  | [] => rfl
  | i :: r => by
    simp only [stE]
    rw [(putA_h _ _ _).1]
    cases hb : (res i).2 with
    | none => simp [addB, hb, stE_h r]
    | some b => simp [addB, hb, stE_h r]

theorem find_app (h1 h2 : List (Nat × Blk)) (n : Nat) (hn : ∀ p ∈ h1, p.1 ≠ n) : find (h1 ++ h2) n = find h2 n := by
  induction h1 with
  | nil => rfl
  | cons p r ih =>
    obtain ⟨q, b⟩ := p
    simp only [List.cons_append, find]
    rw [if_neg (hn (q, b) List.mem_cons_self)]
    exact ih fun p hp => hn p (List.mem_cons_of_mem _ hp)

theorem find_old {n : Nat} (hn : n < s0.k) (l : List Nat) : find (stE ops s0 m res l).h n = find s0.h n := by
  rw [stE_h]
  refine find_app _ _ _ fun p hp => ?_
  simp only [List.mem_filterMap, Option.map_eq_some_iff] at hp
  obtain ⟨i, _, b, _, rfl⟩ := hp
  simp only; omega

theorem find_none (h : List (Nat × Blk)) (n : Nat) (hn : ∀ p ∈ h, p.1 ≠ n) : find h n = none := by
  have := find_app h [] n hn
  simpa [find] using this

theorem find_new {j : Nat} (h0 : ∀ p ∈ s0.h, p.1 < s0.k) : ∀ (l : List Nat), j ∈ l → find (stE ops s0 m res l).h (s0.k + j) = (res j).2 := by
  intro l
  rw [stE_h]
  induction l with
  | nil => intro h; simp at h
  | cons i r ih =>
    intro h
    by_cases hij : i = j
    · subst hij
      cases hb : (res i).2 with
      | some b => simp [hb, find]
      | none =>
        simp only [List.filterMap_cons, hb, Option.map_none]
        by_cases hr : i ∈ r
        · rw [ih hr, hb]
        · refine find_none _ _ fun p hp => ?_
          rw [List.mem_append] at hp
          rcases hp with hp | hp
          · simp only [List.mem_filterMap, Option.map_eq_some_iff] at hp
            obtain ⟨q, hq, b, _, rfl⟩ := hp
            simp only
            intro e
            have : q = i := by omega
            exact hr (this ▸ hq)
          · have := h0 p hp; omega
    · have hr : j ∈ r := (List.mem_cons.1 h).resolve_left (Ne.symm hij)
      cases hb : (res i).2 with
      | none => simp only [List.filterMap_cons, hb, Option.map_none]; exact ih hr
      | some b =>
        simp only [List.filterMap_cons, hb, Option.map_some, List.cons_append, find]
        rw [if_neg (by omega)]
        exact ih hr
end

/-- What one operation of the walk is shown to give, in the state that the text's order has before it. -/
def EvO (P : Program) (A : List (List Nat × List Nat)) (ops : Array Oper) (s0 : AState) (m : Nat) (res : Nat → AV × Option Blk) (i : Nat) (o : Oper) : Prop :=
  match o.guard with
  | none => qopK P (evA (stE ops s0 m res (preN i)).t) (maskH s0 (stE ops s0 m res (preN i)) A i) o (s0.k + i) (fun x y => x = (res i).1 ∧ y = (res i).2)
  | some _ => ∃ b want, guardA ops (stE ops s0 m res (preN i)).t o = some (b, want) ∧
      (b = want → qopK P (evA (stE ops s0 m res (preN i)).t) (maskH s0 (stE ops s0 m res (preN i)) A i) o (s0.k + i) (fun x y => x = (res i).1 ∧ y = (res i).2)) ∧ (b ≠ want → res i = (un, none))

theorem EvO_congr {P : Program} {A : List (List Nat × List Nat)} {ops : Array Oper} {s0 : AState} {m : Nat} {res res' : Nat → AV × Option Blk} {i : Nat} {o : Oper} (h : ∀ j, j ≤ i → res j = res' j) (he : EvO P A ops s0 m res i o) : EvO P A ops s0 m res' i o := by
  have e1 : stE ops s0 m res (preN i) = stE ops s0 m res' (preN i) := stE_congr _ fun j hj => h j (by have := mem_preN.1 hj; omega)
  have e2 := h i (Nat.le_refl i)
  unfold EvO at *
  rw [← e1, ← e2]; exact he

/-- Out of the walk: what each operation gives, and the end. -/
theorem vcQ_res {P : Program} {A : List (List Nat × List Nat)} {ops : Array Oper} {s0 : AState} {m : Nat} {F : AState → Prop} : ∀ (L : List Oper) (i : Nat) (res : Nat → AV × Option Blk),
    (∀ q, q < L.length → L[q]? = ops[i + q]?) → vcQ P A ops s0 F L i (stE ops s0 m res (preN i)) →
    ∃ res' : Nat → AV × Option Blk, (∀ j, j < i → res' j = res j) ∧ (∀ q o, q < L.length → ops[i + q]? = some o → EvO P A ops s0 m res' (i + q) o) ∧ F (stE ops s0 m res' (preN (i + L.length)))
  | [], i, res, _, h => ⟨res, fun _ _ => rfl, fun q o hq => absurd hq (by simp), h⟩
  | o :: L, i, res, hL, h => by
    have ho : ops[i]? = some o := by simpa using (hL 0 (by simp)).symm
    have hdst : dstOf ops i = o.dst := by simp [dstOf, ho]
    -- once the first one's answer is known
    have step : ∀ r : AV × Option Blk, EvO P A ops s0 m (fun q => if q = i then r else res q) i o → vcQ P A ops s0 F L (i + 1) (putA (addB (stE ops s0 m res (preN i)) (s0.k + i) r.2) o.dst r.1) →
        ∃ res' : Nat → AV × Option Blk, (∀ j, j < i → res' j = res j) ∧ (∀ q o', q < (o :: L).length → ops[i + q]? = some o' → EvO P A ops s0 m res' (i + q) o') ∧ F (stE ops s0 m res' (preN (i + (o :: L).length))) := by
      intro r hev hrest
      have e1 : stE ops s0 m (fun q => if q = i then r else res q) (preN (i + 1)) = putA (addB (stE ops s0 m res (preN i)) (s0.k + i) r.2) o.dst r.1 := by
        simp only [preN, stE, if_true, hdst]
        rw [stE_congr (res := fun q => if q = i then r else res q) (res' := res) (preN i) fun j hj => by
          have := mem_preN.1 hj
          rw [if_neg (by omega)]]
      rw [← e1] at hrest
      obtain ⟨res', h1, h2, h3⟩ := vcQ_res L (i + 1) _ (fun q hq => by have := hL (q + 1) (by simp; omega); simpa [Nat.add_assoc, Nat.add_comm 1 q] using this) hrest
      refine ⟨res', fun j hj => by rw [h1 j (by omega)]; rw [if_neg (by omega)], fun q o' hq ho' => ?_, (show i + 1 + L.length = i + (o :: L).length by simp; omega) ▸ h3⟩
      match q with
      | 0 =>
        rw [Nat.add_zero] at ho' ⊢
        rw [ho] at ho'; cases ho'
        exact EvO_congr (fun j hj => (h1 j (by omega)).symm) hev
      | q + 1 =>
        have := h2 q o' (by simpa using hq) (by rw [← ho']; congr 1; omega)
        have e : i + 1 + q = i + (q + 1) := by omega
        rw [← e]; exact this
    have same : ∀ r : AV × Option Blk, stE ops s0 m (fun q => if q = i then r else res q) (preN i) = stE ops s0 m res (preN i) := fun r => stE_congr _ fun j hj => by
      have := mem_preN.1 hj
      rw [if_neg (by omega)]
    unfold vcQ at h
    split at h
    · rename_i hg
      obtain ⟨av, nb, h1, h2⟩ := qopK_det h
      refine step (av, nb) ?_ h1
      unfold EvO
      rw [hg, same]
      simp only [if_true]
      exact h2
    · rename_i g hg
      split at h
      case h_2 => exact h.elim
      rename_i b want hgd
      by_cases hb : b = want
      · obtain ⟨av, nb, h1, h2⟩ := qopK_det (h.1 hb)
        refine step (av, nb) ?_ h1
        unfold EvO
        rw [hg, same]
        simp only [if_true]
        exact ⟨b, want, hgd, fun _ => h2, fun hne => absurd hb hne⟩
      · refine step (un, none) ?_ (h.2 hb)
        unfold EvO
        rw [hg, same]
        simp only [if_true]
        exact ⟨b, want, hgd, fun e => absurd e hb, fun _ => trivial⟩
end Go.Eng
