/- The engine, part F: stores into own blocks, and append. -/
import Derived.Test.YtdhdopmjaibggaaEngE
import Derived.Laws.Tables
set_option linter.unusedSimpArgs false
set_option linter.unusedVariables false
namespace Go.Eng
open Go Go.RowKit

def setN (h : List (Nat × Blk)) (n : Nat) (k : Blk) : List (Nat × Blk) := h.map fun p => if p.1 = n then (n, k) else p

section
variable {C : Ctx} {s : AState} {β : Bt} {a : Act} {w : World}

theorem setN_names (h : List (Nat × Blk)) (n : Nat) (k : Blk) : (setN h n k).map (·.1) = h.map (·.1) := by
  unfold setN
  rw [List.map_map]
  apply List.map_congr_left
  intro p _
  simp only [Function.comp]
  split
  · rename_i e; exact e.symm
  · rfl

theorem mem_setN {h : List (Nat × Blk)} {n : Nat} {k : Blk} {p : Nat × Blk} (hp : p ∈ setN h n k) : p ∈ h ∨ (p = (n, k) ∧ ∃ q ∈ h, q.1 = n) := by
  unfold setN at hp
  obtain ⟨q, hq, rfl⟩ := List.mem_map.1 hp
  split
  · rename_i e; exact .inr ⟨rfl, q, hq, e⟩
  · exact .inl hq

theorem XOf_setN {F : Nat → Prop} {h : List (Nat × Blk)} {n : Nat} {k : Blk} (b : Nat) : XOf F β (setN h n k) b ↔ XOf F β h b := by
  have e := setN_names h n k
  constructor
  · rintro (hb | ⟨p, hp, r⟩)
    · exact .inl hb
    · have : p.1 ∈ h.map (·.1) := by rw [← e]; exact List.mem_map_of_mem hp
      obtain ⟨q, hq, hqe⟩ := List.mem_map.1 this
      exact .inr ⟨q, hq, by rw [hqe]; exact r⟩
  · rintro (hb | ⟨p, hp, r⟩)
    · exact .inl hb
    · have : p.1 ∈ (setN h n k).map (·.1) := by rw [e]; exact List.mem_map_of_mem hp
      obtain ⟨q, hq, hqe⟩ := List.mem_map.1 this
      exact .inr ⟨q, hq, by rw [hqe]; exact r⟩

/-- A write into the own block n: the world turns in that block alone. -/
theorem StR.write (h : StR C s β a w) {n b o : Nat} {k k' : Blk} {c c' : Array Value} {t : TypeId} {w' : World} (hk : find s.h n = some k) (hb : β n = some (b, o, k'.e))
    (hc : w.heap[b]? = some (.cells c t (0, 0))) (hc' : w'.heap[b]? = some (.cells c' t (0, 0))) (hsz : c'.size = c.size) (hoth : ∀ q, q ≠ b → w'.heap[q]? = w.heap[q]?)
    (hz : w'.heap.size = w.heap.size) (h1 : w'.os = w.os) (h2 : w'.tape = w.tape) (h3 : w'.output = w.output)
    (hl : ∀ ch ∈ k'.l, ch.length = k'.e) (hle : o + k'.l.length * k'.e ≤ c'.size)
    (hR : ∀ (i j : Nat) (ch : List AV) (s' : AV), k'.l[i]? = some ch → ch[j]? = some s' → ∃ u, c'[o + i * k'.e + j]? = some u ∧ RS (XOf C.F β s.h) β w s' u) :
    StR C { s with h := setN s.h n k' } β a w' := by
  have hmem := find_mem hk
  have hXb : XOf C.F β s.h b := .inr ⟨(n, k), hmem, o, k'.e, hb⟩
  have hshape : ∀ q t' m, w.shape? q = some (t', m) → w'.shape? q = some (t', m) := by
    intro q t' m hq
    by_cases hqb : q = b
    · subst hqb
      simp only [World.shape?, hc, hc', hsz] at hq ⊢
      exact hq
    · rw [shape_of_heap (hoth q hqb)]; exact hq
  have m : Mono (XOf C.F β s.h) β w (XOf C.F β (setN s.h n k')) β w' :=
    ⟨fun q h1 h2 => absurd ((XOf_setN q).1 h1) h2, fun _ _ h => h, by omega, fun q hq hX => hoth q (fun e => hX (e ▸ hXb)), hshape⟩
  refine ⟨h.defers.keep fun D _ hD ho _ => hoth D (fun e => by subst e; rw [hc] at hD; cases hD; exact ho _ _ _ rfl), h.size, fun i => ?_, fun p hp => ?_, fun p hp => ?_, h.βlt, by rw [setN_names]; exact h.nd, fun p hp q hq b1 o1 e1 o2 e2 hb1 hb2 => ?_, fun p hp b1 o1 e1 hb1 => ?_, ?_, h.Flt, h.sv.mono m, h.yy⟩
  · exact (h.tm i).mono m
  · rcases mem_setN hp with hp' | ⟨rfl, _⟩
    · by_cases hpn : p.1 = n
      · -- an entry of that name is the new one
        unfold setN at hp
        obtain ⟨q, hq, he⟩ := List.mem_map.1 hp
        split at he
        · subst he
          exact .inl ⟨b, o, c', t, hb, hc', hl, hle, fun i j ch s' hi hj => by obtain ⟨u, hu, hr⟩ := hR i j ch s' hi hj; exact ⟨u, hu, hr.mono m⟩⟩
        · rename_i hqn; subst he; exact absurd hpn hqn
      · refine (h.own p hp').mono m (fun b1 o1 e1 hb1 => hoth b1 (fun e => hpn ?_)) (fun h => h)
        subst e
        exact h.inj p hp' (n, k) hmem b1 o1 e1 o k'.e hb1 hb
    · exact .inl ⟨b, o, c', t, hb, hc', hl, hle, fun i j ch s' hi hj => by obtain ⟨u, hu, hr⟩ := hR i j ch s' hi hj; exact ⟨u, hu, hr.mono m⟩⟩
  · have : p.1 ∈ s.h.map (·.1) := by rw [← setN_names s.h n k']; exact List.mem_map_of_mem hp
    obtain ⟨q, hq, hqe⟩ := List.mem_map.1 this
    rw [← hqe]; exact h.lt q hq
  · have hp2 : p.1 ∈ s.h.map (·.1) := by rw [← setN_names s.h n k']; exact List.mem_map_of_mem hp
    have hq2 : q.1 ∈ s.h.map (·.1) := by rw [← setN_names s.h n k']; exact List.mem_map_of_mem hq
    obtain ⟨p', hp', hpe⟩ := List.mem_map.1 hp2
    obtain ⟨q', hq', hqe⟩ := List.mem_map.1 hq2
    rw [← hpe, ← hqe]
    exact h.inj p' hp' q' hq' b1 o1 e1 o2 e2 (by rw [hpe]; exact hb1) (by rw [hqe]; exact hb2)
  · have hp2 : p.1 ∈ s.h.map (·.1) := by rw [← setN_names s.h n k']; exact List.mem_map_of_mem hp
    obtain ⟨p', hp', hpe⟩ := List.mem_map.1 hp2
    exact h.mine p' hp' b1 o1 e1 (by rw [hpe]; exact hb1)
  · have hmine := h.mine (n, k) hmem b o k'.e hb
    refine ⟨h1.trans h.fr.os, h2.trans h.fr.tape, h3.trans h.fr.output, by rw [hz]; exact h.fr.size, fun q hq hp => ?_, fun q t' m hs => hshape q t' m (h.fr.shape q t' m hs)⟩
    have hqb : q ≠ b := fun e => by
      subst e
      rcases hmine.1 with h' | h'
      · omega
      · exact hp h'
    rw [hoth q hqb]; exact h.fr.block q hq hp

/-! ### store -/
def newCh (ch : List AV) (j : Nat) (l : List AV) : List AV := if l.length = ch.length then l else ch.take j ++ l ++ ch.drop (j + l.length)

def stK (P : Program) (ρ : Operand → AV) (H : Nat → Option Blk) (t : TypeId) (p x : Operand) (K : Nat → Blk → Prop) : Prop :=
  match ρ p, cellsA (ρ x) with
  | .ptr n i j, some l =>
    (match H n with
     | some k => ∃ ch, k.l[i]? = some ch ∧ (0 < szT P t ∧ l.length = szT P t ∧ j + l.length ≤ ch.length ∧ l.all oneA = true) ∧ K n ⟨k.e, k.l.set i (newCh ch j l)⟩
     | none => False)
  | _, _ => False

theorem stK_sound (h : StR C s β a w) {o : Oper} {t : TypeId} {p x : Operand} (ho : o.op = .store t p x) {K : Nat → Blk → Prop} (hs : stK C.P (evA s.t) (find s.h) t p x K) :
    ∃ n k w', K n k ∧ (execOp a.eval o).run C.P w = .ok .skip w' ∧ StR C { s with h := setN s.h n k } β a w' := by
  unfold stK at hs
  split at hs
  case h_2 => exact hs.elim
  rename_i n i j l hp hx
  split at hs
  case h_2 => exact hs.elim
  rename_i k hk
  obtain ⟨ch, hi, ⟨hz, hlz, hjl, hall⟩, hK⟩ := hs
  have hpv := h.read p
  have hxv := h.read x
  rw [hp] at hpv
  generalize hv : a.eval p = va at hpv
  cases hpv with
  | ptr hb =>
    rename_i b o' e
    rcases h.look n k hk with ⟨b', o'', c, t', h1, h2, h3, h4, h5⟩ | ⟨h1, h2⟩
    · rw [h1] at hb; cases hb
      obtain ⟨hcl, hcR⟩ := hxv.cells hx
      have hch : ch.length = k.e := h3 ch (List.mem_of_getElem? hi)
      have hil : i < k.l.length := (List.getElem?_eq_some_iff.1 hi).1
      have hle : (i + 1) * k.e ≤ k.l.length * k.e := Nat.mul_le_mul_right _ hil
      rw [Nat.succ_mul] at hle
      have hone : ∀ v ∈ (a.eval x).cells.toList, v.oneCell' = true := by
        intro v hv'
        obtain ⟨q, hq⟩ := List.getElem?_of_mem hv'
        rw [Array.getElem?_toList] at hq
        have hql : q < l.length := by have := (Array.getElem?_eq_some_iff.1 hq).1; omega
        have hlq : l[q]? = some l[q] := List.getElem?_eq_getElem hql
        exact (hcR q _ v hlq hq).one (List.all_eq_true.1 hall _ (List.getElem_mem hql))
      have hst := run_storeCells_at C.P b (o' + i * k.e + j) t' (a.eval x).cells.toList 0 c w h2 (by simp; omega) hone
      have hrun : (execOp a.eval o).run C.P w = .ok .skip (w.setRow b (c.toList.take (o' + i * k.e + j + 0) ++ (a.eval x).cells.toList ++ c.toList.drop (o' + i * k.e + j + 0 + (a.eval x).cells.toList.length)).toArray) := by
        have hszx : ¬ (a.eval x).cells.size ≠ szT C.P t := by omega
        obtain ⟨_, op, _, _, _, _⟩ := o
        simp only at ho; subst ho
        simp only [execOp, Instr.storeAt, hv, Instr.sureAddr, Sem.run_bind, Sem.run_pure, Result.andThen_ok, storeVar, run_sizeOf' hz, if_neg hszx, hst]
      refine ⟨n, _, _, hK, hrun, h.write (c' := (c.toList.take (o' + i * k.e + j + 0) ++ (a.eval x).cells.toList ++ c.toList.drop (o' + i * k.e + j + 0 + (a.eval x).cells.toList.length)).toArray) hk (k' := ⟨k.e, _⟩) h1 h2 (setRow_heap w b c _ t' _ h2) ?_ (fun q hq => setRow_other w b q _ hq) (setRow_size _ _ _) rfl rfl rfl ?_ ?_ ?_⟩
      · simp; omega
      · intro ch' hch'
        rcases List.mem_or_eq_of_mem_set hch' with hm | rfl
        · exact h3 _ hm
        · show (newCh ch j l).length = k.e
          unfold newCh; split
          · omega
          · simp; omega
      · simp; omega
      · intro i' j' ch' s' hi' hj'
        dsimp only at hi' ⊢
        rw [List.getElem?_set] at hi'
        have hget : ∀ q, q < c.size → (c.toList.take (o' + i * k.e + j + 0) ++ (a.eval x).cells.toList ++ c.toList.drop (o' + i * k.e + j + 0 + (a.eval x).cells.toList.length)).toArray[q]? =
            if o' + i * k.e + j ≤ q ∧ q < o' + i * k.e + j + l.length then (a.eval x).cells[q - (o' + i * k.e + j)]? else c[q]? := by
          intro q hq
          simp only [List.getElem?_toArray, Nat.add_zero, List.append_assoc]
          have hpos : o' + i * k.e + j ≤ c.toList.length := by simp; omega
          by_cases q1 : q < o' + i * k.e + j
          · rw [List.getElem?_append_left (by simp; omega), List.getElem?_take_of_lt q1, if_neg (by omega)]; simp
          · rw [List.getElem?_append_right (by simp; omega)]
            simp only [List.length_take, Nat.min_eq_left hpos]
            by_cases q2 : q < o' + i * k.e + j + l.length
            · rw [List.getElem?_append_left (by simp; omega), if_pos ⟨by omega, q2⟩]; simp
            · rw [List.getElem?_append_right (by simp; omega), if_neg (by omega)]
              simp only [List.getElem?_drop, Array.length_toList, Array.getElem?_toList]
              congr 1; omega
        split at hi'
        · rename_i hii; subst hii
          (try rw [if_pos hil] at hi'); cases hi'
          have hj'l : j' < k.e := by
            have := (List.getElem?_eq_some_iff.1 hj').1
            unfold newCh at this; split at this
            · omega
            · simp at this; omega
          rw [hget _ (by omega)]
          unfold newCh at hj'
          split at hj'
          · rename_i hle'
            have hj0 : j = 0 := by omega
            subst hj0
            rw [if_pos ⟨by omega, by omega⟩]
            have hq : o' + i * k.e + j' - (o' + i * k.e + 0) = j' := by omega
            rw [hq]
            have hlt : j' < (a.eval x).cells.size := by omega
            exact ⟨_, Array.getElem?_eq_getElem hlt, hcR j' s' _ hj' (Array.getElem?_eq_getElem hlt)⟩
          · rw [List.append_assoc] at hj'
            by_cases q1 : j' < j
            · rw [List.getElem?_append_left (by simp; omega), List.getElem?_take_of_lt q1] at hj'
              rw [if_neg (by omega)]
              exact h5 i j' ch s' hi hj'
            · rw [List.getElem?_append_right (by simp; omega)] at hj'
              simp only [List.length_take, Nat.min_eq_left (by omega : j ≤ ch.length)] at hj'
              by_cases q2 : j' - j < l.length
              · rw [List.getElem?_append_left q2] at hj'
                rw [if_pos ⟨by omega, by omega⟩]
                have hq : o' + i * k.e + j' - (o' + i * k.e + j) = j' - j := by omega
                rw [hq]
                have hlt : j' - j < (a.eval x).cells.size := by omega
                exact ⟨_, Array.getElem?_eq_getElem hlt, hcR _ s' _ hj' (Array.getElem?_eq_getElem hlt)⟩
              · rw [List.getElem?_append_right (by omega), List.getElem?_drop] at hj'
                rw [if_neg (by omega)]
                have hq : j + l.length + (j' - j - l.length) = j' := by omega
                rw [hq] at hj'
                exact h5 i j' ch s' hi hj'
        · rename_i hii
          have hch' : ch'.length = k.e := h3 ch' (List.mem_of_getElem? hi')
          have hj'l : j' < k.e := by have := (List.getElem?_eq_some_iff.1 hj').1; omega
          have hil' : i' < k.l.length := (List.getElem?_eq_some_iff.1 hi').1
          have hle' : (i' + 1) * k.e ≤ k.l.length * k.e := Nat.mul_le_mul_right _ hil'
          rw [Nat.succ_mul] at hle'
          rw [hget _ (by omega)]
          have hdis : ¬ (o' + i * k.e + j ≤ o' + i' * k.e + j' ∧ o' + i' * k.e + j' < o' + i * k.e + j + l.length) := by
            rintro ⟨q1, q2⟩
            rcases Nat.lt_or_gt_of_ne hii with hlt | hgt
            · have : (i + 1) * k.e ≤ i' * k.e := Nat.mul_le_mul_right _ hlt
              rw [Nat.succ_mul] at this; omega
            · have : (i' + 1) * k.e ≤ i * k.e := Nat.mul_le_mul_right _ hgt
              rw [Nat.succ_mul] at this; omega
          rw [if_neg hdis]
          exact h5 i' j' ch' s' hi' hj'
    · rw [h1] at hi; simp at hi
end
end Go.Eng
