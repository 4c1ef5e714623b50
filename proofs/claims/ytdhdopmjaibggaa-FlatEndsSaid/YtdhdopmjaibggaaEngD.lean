/- The engine, part D: operations that make a block; how the state goes on. -/
import Derived.Test.YtdhdopmjaibggaaEngC
import Derived.Tactics
set_option linter.unusedSimpArgs false
set_option linter.unusedVariables false
namespace Go.Eng
open Go Go.RowKit

/-! ### The state's slots -/
def evA (t : Nat → AV) : Operand → AV
  | .tmp i => t i
  | .const v => ofV v
  | .func f => .fn f []
  | .global _ => .unk
def upd (t : Nat → AV) (d : Nat) (x : AV) : Nat → AV := fun i => if i = d then x else t i
def putA (s : AState) (d : Option Nat) (x : AV) : AState :=
  match d with
  | some d => if d < s.n then { s with t := upd s.t d x } else s
  | none => s
def pushA (s : AState) (k : Blk) : AState := { s with h := (s.k, k) :: s.h, k := s.k + 1 }

section
variable {C : Ctx} {s : AState} {β : Bt} {a : Act} {w : World}

theorem StR.read (h : StR C s β a w) (x : Operand) : RS (XOf C.F β s.h) β w (evA s.t x) (a.eval x) := by
  cases x with
  | tmp i => exact h.tm i
  | const v => exact .ofV v
  | func f => exact .fn rfl fun k s u hs _ => by simp at hs
  | global g => exact .unk _

theorem StR.look (h : StR C s β a w) (n : Nat) (k : Blk) (hk : find s.h n = some k) : OwnR (XOf C.F β s.h) β w n k := h.own _ (find_mem hk)

theorem StR.put (h : StR C s β a w) {x : AV} {u : Value} (hx : RS (XOf C.F β s.h) β w x u) (d : Option Nat) : StR C (putA s d x) β (a.put d u) w := by
  cases d with
  | none => exact h
  | some d =>
    unfold putA
    simp only
    split
    · rename_i hd
      refine ⟨h.defers, by simp [Act.put, h.size], fun i => ?_, h.own, h.lt, h.βlt, h.nd, h.inj, h.mine, h.fr, h.Flt, h.sv, h.yy⟩
      simp only [upd]
      split
      · rename_i hdi; subst hdi
        have : (a.put (some i) u).tmps.getD i undef = u := by
          have : i < a.tmps.size := by rw [h.size]; exact hd
          simp [Act.put, Array.getD, this]
        rw [this]; exact hx
      · rename_i hdi
        have : (a.put (some d) u).tmps.getD i undef = a.tmps.getD i undef := by
          simp only [Act.put, Array.getD_eq_getD_getElem?, Array.getElem?_setIfInBounds]
          rw [if_neg (fun e => hdi e.symm)]
        rw [this]; exact h.tm i
    · rename_i hd
      have : a.put (some d) u = a := by
        simp only [Act.put]
        rw [Array.setIfInBounds_eq_of_size_le (by rw [h.size]; omega)]
      rw [this]; exact h

/-- A drawn order, or anything that turns no block and no stream. -/
theorem Fr.same {Pm : Nat → Prop} {W w w' : World} (h : Fr Pm W w) (h1 : w'.os = w.os) (h2 : w'.tape = w.tape) (h3 : w'.output = w.output) (h4 : w'.heap = w.heap) : Fr Pm W w' :=
  ⟨h1.trans h.os, h2.trans h.tape, h3.trans h.output, by rw [h4]; exact h.size, fun b hb hp => by rw [h4]; exact h.block b hb hp,
   fun b t m hs => by have := h.shape b t m hs; unfold World.shape? at *; rw [h4]; exact this⟩

theorem Mono.same {X : Nat → Prop} {β : Bt} {w w' : World} (h4 : w'.heap = w.heap) : Mono X β w X β w' :=
  ⟨fun _ h h' => absurd h h', fun _ _ h => h, by rw [h4]; exact Nat.le_refl _, fun _ _ _ => by rw [h4], fun b t m h => by unfold World.shape? at *; rw [h4]; exact h⟩

theorem StR.same (h : StR C s β a w) {w' : World} (h1 : w'.os = w.os) (h2 : w'.tape = w.tape) (h3 : w'.output = w.output) (h4 : w'.heap = w.heap) : StR C s β a w' := by
  refine ⟨h.defers.keep fun D _ _ _ _ => by rw [h4], h.size, fun i => ?_, fun p hp => (h.own p hp).mono (.same h4) (fun _ _ _ _ => by rw [h4]) (fun h => h), h.lt, h.βlt, h.nd, h.inj, h.mine, h.fr.same h1 h2 h3 h4, h.Flt, h.sv.mono (.same h4), h.yy⟩
  exact (h.tm i).mono (.same h4)

/-- A world that has grown by blocks, nothing else. -/
structure Ext (w w' : World) : Prop where
  os : w'.os = w.os
  tape : w'.tape = w.tape
  output : w'.output = w.output
  size : w.heap.size ≤ w'.heap.size
  block : ∀ b, b < w.heap.size → w'.heap[b]? = w.heap[b]?

theorem Ext.refl (w : World) : Ext w w := ⟨rfl, rfl, rfl, Nat.le_refl _, fun _ _ => rfl⟩
theorem Ext.shape {w w' : World} (e : Ext w w') {b t m : Nat} (h : w.shape? b = some (t, m)) : w'.shape? b = some (t, m) := by
  have hb : b < w.heap.size := by
    rcases Nat.lt_or_ge b w.heap.size with h' | h'
    · exact h'
    · simp [World.shape?, Array.getElem?_eq_none h'] at h
  rw [shape_of_heap (e.block b hb)]; exact h
theorem Ext.mono {w w' : World} (e : Ext w w') (X : Nat → Prop) (β : Bt) : Mono X β w X β w' :=
  ⟨fun _ h h' => absurd h h', fun _ _ h => h, e.size, fun b hb _ => e.block b hb, fun _ _ _ h => e.shape h⟩
theorem Fr.ext {Pm : Nat → Prop} {W w w' : World} (h : Fr Pm W w) (e : Ext w w') : Fr Pm W w' :=
  ⟨e.os.trans h.os, e.tape.trans h.tape, e.output.trans h.output, Nat.le_trans h.size e.size,
   fun b hb hp => (e.block b (Nat.lt_of_lt_of_le hb h.size)).trans (h.block b hb hp), fun b t m hs => e.shape (h.shape b t m hs)⟩
theorem Ext.push (w : World) (o : Obj) : Ext w { w with heap := w.heap.push o } :=
  ⟨rfl, rfl, rfl, by simp, fun b hb => by simp [Array.getElem?_push]; omega⟩
theorem Ext.trans {a b c : World} (h : Ext a b) (k : Ext b c) : Ext a c :=
  ⟨k.os.trans h.os, k.tape.trans h.tape, k.output.trans h.output, Nat.le_trans h.size k.size,
   fun i hi => (k.block i (Nat.lt_of_lt_of_le hi h.size)).trans (h.block i hi)⟩

theorem StR.lt_size (h : StR C s β a w) {p : Nat × Blk} (hp : p ∈ s.h) {b o e : Nat} (hb : β p.1 = some (b, o, e)) : b < w.heap.size := by
  rcases h.own p hp with ⟨b', o', c, t, h1, h2, _⟩ | ⟨_, h2⟩
  · rw [h1] at hb; cases hb; exact (Array.getElem?_eq_some_iff.1 h2).1
  · rw [h2] at hb; cases hb

theorem StR.ext (h : StR C s β a w) {w' : World} (e : Ext w w') : StR C s β a w' := by
  refine ⟨h.defers.keep fun D _ hD _ _ => e.block D (lt_of_get hD), h.size, fun i => ?_, fun p hp => (h.own p hp).mono (e.mono _ _) (fun b o e' hb => e.block b (h.lt_size hp hb)) (fun h => h), h.lt, h.βlt, h.nd, h.inj, h.mine, h.fr.ext e, h.Flt, h.sv.mono (e.mono _ _), h.yy⟩
  exact (h.tm i).mono (e.mono _ _)

def updB (β : Bt) (n : Nat) (r : Nat × Nat × Nat) : Bt := fun m => if m = n then some r else β m

/-- What the new block's row of cells must be for its contents. -/
def NewR (X : Nat → Prop) (β : Bt) (w : World) (k : Blk) (c : Array Value) : Prop :=
  (∀ ch ∈ k.l, ch.length = k.e) ∧ k.l.length * k.e ≤ c.size ∧
    ∀ (i j : Nat) (ch : List AV) (s : AV), k.l[i]? = some ch → ch[j]? = some s → ∃ u, c[i * k.e + j]? = some u ∧ RS X β w s u

theorem StR.push (h : StR C s β a w) {k : Blk} {c : Array Value} {t : TypeId} (hc : NewR (XOf C.F β s.h) β w k c) :
    StR C (pushA s k) (updB β s.k (w.heap.size, 0, k.e)) a { w with heap := w.heap.push (.cells c t (0, 0)) } := by
  have hfresh : β s.k = none := by
    cases hb : β s.k with
    | none => rfl
    | some r => exact absurd (h.βlt _ _ hb) (Nat.lt_irrefl _)
  have hne : ∀ p ∈ s.h, p.1 ≠ s.k := fun p hp => Nat.ne_of_lt (h.lt p hp)
  have hup : ∀ p ∈ s.h, updB β s.k (w.heap.size, 0, k.e) p.1 = β p.1 := fun p hp => by simp [updB, hne p hp]
  have hFlt : ∀ b, C.F b → b < w.heap.size := fun b hb => Nat.lt_of_lt_of_le (h.Flt b hb) h.fr.size
  have m : Mono (XOf C.F β s.h) β w (XOf C.F (updB β s.k (w.heap.size, 0, k.e)) (pushA s k).h) (updB β s.k (w.heap.size, 0, k.e)) { w with heap := w.heap.push (.cells c t (0, 0)) } := by
    refine ⟨fun b hb hn => ?_, fun n r hr => ?_, by simp, fun b hb _ => (Ext.push w _).block b hb, fun _ _ _ hs => (Ext.push w _).shape hs⟩
    · rcases hb with hb | ⟨p, hp, o, e, hb⟩
      · exact absurd (.inl hb) hn
      · simp only [pushA, List.mem_cons] at hp
        rcases hp with rfl | hp
        · simp [updB] at hb; omega
        · rw [hup p hp] at hb; exact absurd (.inr ⟨p, hp, o, e, hb⟩) hn
    · unfold updB; split
      · rename_i hn; subst hn; rw [hfresh] at hr; cases hr
      · exact hr
  refine ⟨h.defers.keep fun D _ hD _ _ => (Ext.push w _).block D (lt_of_get hD), h.size, fun i => ?_, fun p hp => ?_, fun p hp => ?_, fun n r hr => ?_, ?_, ?_, ?_, h.fr.ext (Ext.push w _), h.Flt, h.sv.mono m, h.yy⟩
  · exact (h.tm i).mono m
  · simp only [pushA, List.mem_cons] at hp
    rcases hp with rfl | hp
    · refine .inl ⟨w.heap.size, 0, c, t, by simp [updB], by simp, hc.1, by simpa using hc.2.1, fun i j ch s hi hj => ?_⟩
      obtain ⟨u, hu, hr⟩ := hc.2.2 i j ch s hi hj
      exact ⟨u, by simpa using hu, hr.mono m⟩
    · refine (h.own p hp).mono m (fun b o e hb => (Ext.push w _).block b (h.lt_size hp hb)) (fun hn => by rw [hup p hp]; exact hn)
  · simp only [pushA, List.mem_cons] at hp ⊢
    rcases hp with rfl | hp
    · exact Nat.lt_succ_self _
    · exact Nat.lt_succ_of_lt (h.lt p hp)
  · unfold updB at hr; simp only [pushA]
    split at hr
    · rename_i hn; subst hn; exact Nat.lt_succ_self _
    · exact Nat.lt_succ_of_lt (h.βlt _ _ hr)
  · simp only [pushA, List.map_cons, List.nodup_cons]
    refine ⟨fun hm => ?_, h.nd⟩
    obtain ⟨p, hp, he⟩ := List.mem_map.1 hm
    exact hne p hp he
  · intro p hp q hq b o e o' e' h1 h2
    simp only [pushA, List.mem_cons] at hp hq
    rcases hp with rfl | hp <;> rcases hq with rfl | hq
    · rfl
    · rw [hup q hq] at h2
      have := h.lt_size hq h2
      simp [updB] at h1; omega
    · rw [hup p hp] at h1
      have := h.lt_size hp h1
      simp [updB] at h2; omega
    · rw [hup p hp] at h1; rw [hup q hq] at h2
      exact h.inj p hp q hq b o e o' e' h1 h2
  · intro p hp b o e hb
    simp only [pushA, List.mem_cons] at hp
    rcases hp with rfl | hp
    · simp [updB] at hb
      obtain ⟨rfl, _⟩ := hb
      exact ⟨.inl h.fr.size, fun hF => by have := hFlt _ hF; omega⟩
    · rw [hup p hp] at hb; exact h.mine p hp b o e hb
end

/-! ### The operations that make a block -/
def chunksA (z : Nat) : List AV → Option (List (List AV))
  | [] => some []
  | x :: r => match cellsA x, chunksA z r with
    | some c, some l => if c.length = z then some (c :: l) else none
    | _, _ => none

def nev (P : Program) (ρ : Operand → AV) (op : Op) (n : Nat) (K : AV → Blk → Prop) : Prop :=
  match op with
  | .box _ x => (match cellsA (ρ x) with | some l => K (.ptr n 0 0) ⟨l.length, [l]⟩ | none => False)
  | .alloc t => (match zeT P t with | some z => K (.ptr n 0 0) ⟨z.length, [z.map .v]⟩ | none => False)
  | .buildSlice t len parts =>
    (match slT P t with
     | some e => (0 < szT P e ∧ len * szT P e ≤ 16777216 ∧ (zeT P e).isSome = true ∧ parts.toList.map (·.1) = List.range len) ∧
        ∃ cs, chunksA (szT P e) (parts.toList.map fun p => ρ p.2) = some cs ∧ K (.sl n 0 len) ⟨szT P e, cs⟩
     | none => False)
  | .makeSlice t l c =>
    (match slT P t, asI (ρ l), asI (ρ c) with
     | some e, some (_, x), some (_, y) => (0 < szT P e ∧ 0 ≤ x ∧ x ≤ y ∧ y ≤ 1099511627776 ∧ byT P e ≤ 64) ∧
        (match zeT P e with | some z => z.length = szT P e ∧ K (.sl n 0 x.toNat) ⟨szT P e, List.replicate x.toNat (z.map .v)⟩ | none => False)
     | _, _, _ => False)
  | _ => False

section
variable {P : Program} {X : Nat → Prop} {β : Bt} {w : World}

theorem zeT_run {t : TypeId} {z : List Value} (h : zeT P t = some z) : ∃ zv, (zeroValue t).run P w = .ok zv w ∧ zv.cells.toList = z := by
  unfold zeT at h
  cases hi : P.info? t with
  | none => simp [hi] at h
  | some ti =>
    cases hzv : ti.zero with
    | none => simp [hi, hzv] at h
    | some zv => simp [hi, hzv] at h; exact ⟨zv, by simp [zeroValue, typeInfo, hi, hzv], h⟩

/-- What the value of a new block's address or slice means, wherever that block comes to lie under the name n. -/
def NewV (n : Nat) (e b t m : Nat) (av : AV) (u : Value) : Prop :=
  ∀ X β w, β n = some (b, 0, e) → w.shape? b = some (t, m) → RS X β w av u

theorem wrap_i64 {x : Int} (h : -9223372036854775808 ≤ x) (h' : x ≤ 9223372036854775807) : IntKind.i64.wrap x = x := by
  have e1 : (2 : Int) ^ 64 = 18446744073709551616 := by decide
  have e2 : (2 : Int) ^ (64 - 1) = 9223372036854775808 := by decide
  simp only [IntKind.wrap, IntKind.bits, IntKind.signed, Bool.true_and, decide_eq_true_eq, e1, e2]
  split <;> omega

theorem flat_get {α : Type} {z : Nat} : ∀ (cs : List (List α)), (∀ c ∈ cs, c.length = z) → ∀ (i j : Nat) (c : List α) (s : α), cs[i]? = some c → c[j]? = some s → cs.flatten[i * z + j]? = some s
  | [], _, i, j, c, s, hi, _ => by simp at hi
  | d :: cs, h, 0, j, c, s, hi, hj => by
    simp at hi; subst hi
    have hjl := (List.getElem?_eq_some_iff.1 hj).1
    simp only [List.flatten_cons, Nat.zero_mul, Nat.zero_add]
    rw [List.getElem?_append_left hjl]; exact hj
  | d :: cs, h, i + 1, j, c, s, hi, hj => by
    have hd := h d (by simp)
    simp only [List.flatten_cons]
    rw [List.getElem?_append_right (by rw [hd, Nat.succ_mul]; omega)]
    have := flat_get cs (fun c hc => h c (by simp [hc])) i j c s (by simpa using hi) hj
    rw [← this]; congr 1; rw [hd, Nat.succ_mul]; omega

theorem chunksA_len {z : Nat} : ∀ (xs : List AV) (cs : List (List AV)), chunksA z xs = some cs → cs.length = xs.length ∧ ∀ c ∈ cs, c.length = z
  | [], cs, h => by simp [chunksA] at h; subst h; simp
  | x :: xs, cs, h => by
    unfold chunksA at h
    split at h
    · rename_i c l hc hl
      split at h
      · rename_i hz; cases h
        obtain ⟨h1, h2⟩ := chunksA_len xs l hl
        exact ⟨by simp [h1], fun d hd => (List.mem_cons.1 hd).elim (fun e => e ▸ hz) (h2 d)⟩
      · cases h
    · cases h

theorem fillA_seq {z : Nat} : ∀ (xs : List AV) (k : Nat) (cells : List AV) (cs : List (List AV)), chunksA z xs = some cs → (k + xs.length) * z ≤ cells.length →
    fillA (fun i => some (i * z, z)) cells ((List.range' k xs.length).zip xs) = some (cells.take (k * z) ++ cs.flatten ++ cells.drop ((k + xs.length) * z))
  | [], k, cells, cs, h, hl => by simp [chunksA] at h; subst h; simp [fillA]
  | x :: xs, k, cells, cs, h, hl => by
    unfold chunksA at h
    split at h
    case h_2 => cases h
    rename_i c l hc hlx
    split at h
    case isFalse => cases h
    rename_i hz; cases h
    have e1 : (k + (x :: xs).length) * z = k * z + z + xs.length * z := by simp only [List.length_cons]; rw [show k + (xs.length + 1) = k + 1 + xs.length by omega, Nat.add_mul, Nat.succ_mul]
    rw [e1] at hl ⊢
    have hb : c.length = z ∧ k * z + c.length ≤ cells.length := ⟨hz, by omega⟩
    have hk : k * z ≤ cells.length := by omega
    simp only [List.length_cons, List.range'_succ, List.zip_cons_cons, fillA, hc]
    rw [if_pos hb]
    rw [fillA_seq xs (k + 1) _ l hlx (by simp only [List.length_append, List.length_take, List.length_drop, Nat.min_eq_left hk]; rw [show k + 1 + xs.length = k + (1 + xs.length) by omega, Nat.add_mul, Nat.add_mul]; omega)]
    congr 1
    have e2 : (k + 1) * z = k * z + z := Nat.succ_mul k z
    have e3 : (k + 1 + xs.length) * z = k * z + z + xs.length * z := by rw [Nat.add_mul, Nat.succ_mul]
    rw [e2, e3]
    have ht : (cells.take (k * z) ++ c ++ cells.drop (k * z + c.length)).take (k * z + z) = cells.take (k * z) ++ c := by
      rw [List.take_append_of_le_length (by simp [hz, Nat.min_eq_left hk])]
      rw [List.take_of_length_le (by simp [hz, Nat.min_eq_left hk])]
    have hd : (cells.take (k * z) ++ c ++ cells.drop (k * z + c.length)).drop (k * z + z + xs.length * z) = cells.drop (k * z + z + xs.length * z) := by
      rw [List.drop_append, List.drop_of_length_le (by simp [hz, Nat.min_eq_left hk])]
      simp only [List.nil_append, List.drop_drop, List.length_append, List.length_take, Nat.min_eq_left hk, hz]
      congr 1; omega
    rw [ht, hd]
    simp

theorem nev_sound {ρ : Operand → AV} {ρc : Operand → Value} {o : Oper} {n : Nat} {K : AV → Blk → Prop} (hρ : ∀ x, RS X β w (ρ x) (ρc x)) (h : nev P ρ o.op n K) :
    ∃ av k u c t, K av k ∧ (execOp ρc o).run P w = .ok (.value u) { w with heap := w.heap.push (.cells c t (0, 0)) } ∧ NewR X β w k c ∧ NewV n k.e w.heap.size t c.size av u := by
  obtain ⟨dst, op, type, pos, after, guard⟩ := o
  simp only at h
  unfold nev at h
  cases op
  case box e x =>
    simp only at h
    split at h
    case h_2 => exact h.elim
    rename_i l hl
    obtain ⟨h1, h2⟩ := (hρ x).cells hl
    refine ⟨_, _, .pointer (some ⟨w.heap.size, 0, none⟩), (ρc x).cells, e, h, by simp [execOp, Instr.box, newVar, newRow], ⟨by simp, by simp [h1], fun i j ch s hi hj => ?_⟩, fun X β w hb _ => by simpa using RS.ptr (i := 0) (j := 0) hb⟩
    match i with
    | 0 =>
      simp at hi; subst hi
      have hj' : j < (ρc x).cells.size := by have := (List.getElem?_eq_some_iff.1 hj).1; omega
      exact ⟨(ρc x).cells[j], by simp [hj'], h2 j s _ hj (by simp [hj'])⟩
    | i + 1 => simp at hi
  case alloc e =>
    simp only at h
    split at h
    case h_2 => exact h.elim
    rename_i z hz
    obtain ⟨zv, hzr, hze⟩ := zeT_run (w := w) hz
    refine ⟨_, _, .pointer (some ⟨w.heap.size, 0, none⟩), zv.cells, e, h, by simp [execOp, Instr.alloc, newVar, newRow, hzr], ⟨by simp, by simp [← hze], fun i j ch s hi hj => ?_⟩, fun X β w hb _ => by simpa using RS.ptr (i := 0) (j := 0) hb⟩
    match i with
    | 0 =>
      simp at hi; subst hi
      simp only [← hze, List.getElem?_map, Option.map_eq_some_iff, Array.getElem?_toList] at hj
      obtain ⟨u, hu, rfl⟩ := hj
      exact ⟨u, by simpa using hu, .v _⟩
    | i + 1 => simp at hi
  case buildSlice t len parts =>
    simp only at h
    split at h
    case h_2 => exact h.elim
    rename_i e he
    obtain ⟨⟨hz, hsm, hze, hidx⟩, cs, hcs, hK⟩ := h
    have hu := und_of_slT he
    obtain ⟨zl, hzl⟩ := Option.isSome_iff_exists.mp hze
    obtain ⟨zv, hzr, _⟩ := zeT_run (w := w) hzl
    obtain ⟨hcl, hcz⟩ := chunksA_len _ _ hcs
    have hlen : parts.size = len := by have := congrArg List.length hidx; simpa using this
    simp only [List.length_map, Array.length_toList, hlen] at hcl
    generalize hzz : (if len * szT P e = 0 then (#[] : Array Value) else zv.cells) = zz
    have hq := fillA_seq (parts.toList.map fun p => ρ p.2) 0 (List.replicate (len * szT P e) .unk) cs hcs (by simp [hlen])
    have hpz : (List.range' 0 (parts.toList.map fun p => ρ p.2).length).zip (parts.toList.map fun p => ρ p.2) = parts.toList.map fun p => (p.1, ρ p.2) := by
      rw [← List.range_eq_range']
      simp only [List.length_map, Array.length_toList, hlen, ← hidx]
      rw [List.zip_map']
    rw [hpz] at hq
    obtain ⟨r, hr, hrl, hrR⟩ := fill_sound (X := X) (β := β) (w := w) _ (parts.toList.map fun p => (p.1, ρc p.2)) _ _ ((Array.range (len * szT P e)).map (zz[· % zz.size]!)) (by simp)
      (fun k p q hp hq => by
        simp only [List.getElem?_map, Option.map_eq_some_iff] at hp hq
        obtain ⟨a, ha, rfl⟩ := hp
        obtain ⟨b, hb, rfl⟩ := hq
        rw [ha] at hb; cases hb
        exact ⟨rfl, hρ _⟩) (by simp) (fun k s u hs hu => by
        simp only [List.getElem?_replicate] at hs
        split at hs
        · cases hs; exact .unk _
        · cases hs) hq
    have hrl' : r.size = len * szT P e := by
      rw [← hrl]; simp [hlen, List.length_flatten]
      have : (cs.map List.length).sum = cs.length * szT P e := by
        clear hcs hq hK hrl hrR hcl
        induction cs with
        | nil => simp
        | cons c cs ih => simp [hcz c (by simp), ih (fun d hd => hcz d (by simp [hd])), Nat.succ_mul]; omega
      rw [this, hcl]
    refine ⟨_, _, .slice (some ⟨w.heap.size, 0, none⟩) len len, r, e, hK, ?_, ⟨hcz, by rw [hrl', hcl]; exact Nat.le_refl _, fun i j ch s hi hj => ?_⟩, fun X β w hb hs => ?_⟩
    · have hnb : ¬ len * szT P e > 2 ^ 24 := by omega
      have hfl : Instr.fill (fun i => some (i * szT P e, szT P e)) ((Array.range (len * szT P e)).map (zz[· % zz.size]!)) (parts.map fun p => (p.1, ρc p.2)).toList = some r := by
        rw [← hr]; congr 1; simp
      by_cases h0 : len * szT P e = 0
      · rw [if_pos h0] at hzz; subst hzz
        simp only [execOp, Instr.buildSlice, Sem.run_bind, run_underlying hu, Result.andThen_ok, run_sizeOf' hz, hnb, if_false, if_pos h0, Sem.run_pure, hfl, newRow, run_newObj]
      · rw [if_neg h0] at hzz; subst hzz
        simp only [execOp, Instr.buildSlice, Sem.run_bind, run_underlying hu, Result.andThen_ok, run_sizeOf' hz, hnb, if_false, if_neg h0, hzr, Sem.run_pure, hfl, newRow, run_newObj]
    · have hf := flat_get cs hcz i j ch s hi hj
      have hlt : i * szT P e + j < r.size := by
        have h1 : i < cs.length := (List.getElem?_eq_some_iff.1 hi).1
        have h2 := (List.getElem?_eq_some_iff.1 hj).1
        have h3 := hcz ch (List.mem_of_getElem? hi)
        have : (i + 1) * szT P e ≤ len * szT P e := Nat.mul_le_mul_right _ (by omega)
        rw [Nat.succ_mul] at this
        omega
      exact ⟨r[i * szT P e + j], by simp [hlt], hrR _ s _ (by
        simp only [Nat.zero_mul, List.take_zero, List.nil_append]
        rw [List.getElem?_append_left (List.getElem?_eq_some_iff.1 hf).1]; exact hf) (by simp [hlt])⟩
    · have := RS.sl (X := X) (i := 0) (len := len) (cap := len) hb (Nat.le_refl _) hs (by simp [hrl'])
      simpa using this
  case makeSlice t l c =>
    simp only at h
    split at h
    case h_2 => exact h.elim
    rename_i e k1 x k2 y he hx hy
    obtain ⟨⟨hz, h0, hxy, hbig, hby⟩, h⟩ := h
    split at h
    case h_2 => exact h.elim
    rename_i z hzz
    obtain ⟨hzl, hK⟩ := h
    have hu := und_of_slT he
    obtain ⟨zv, hzr, hze⟩ := zeT_run (w := w) hzz
    have hx' := (hρ l).asI hx
    have hy' := (hρ c).asI hy
    obtain ⟨ti, hti, hsz⟩ : ∃ ti, P.info? e = some ti ∧ ti.bytes = byT P e := by
      unfold szT at hz; unfold byT
      cases hi : P.info? e with
      | none => simp [hi] at hz
      | some ti => exact ⟨ti, rfl, by simp⟩
    have w1 : IntKind.i64.wrap x = x := wrap_i64 (by omega) (by omega)
    have w2 : IntKind.i64.wrap y = y := wrap_i64 (by omega) (by omega)
    have hmul : (byT P e : Int) * y ≤ 64 * 1099511627776 := Int.le_trans (Int.mul_le_mul_of_nonneg_right (by omega : (byT P e : Int) ≤ 64) (by omega)) (Int.mul_le_mul_of_nonneg_left hbig (by omega))
    have hmul0 : 0 ≤ (byT P e : Int) * y := Int.mul_nonneg (by omega) (by omega)
    generalize hzz : (if y.toNat * szT P e = 0 then (#[] : Array Value) else zv.cells) = zz
    have hcond : ¬ ((decide (y < 0) || decide ((byT P e : Int) * y > 2 ^ 48)) || decide (x < 0) || decide (x > y)) = true := by
      simp; omega
    refine ⟨_, _, .slice (some ⟨w.heap.size, 0, none⟩) x.toNat y.toNat, (Array.range (y.toNat * szT P e)).map (zz[· % zz.size]!), e, hK, ?_, ⟨?_, ?_, fun i j ch s hi hj => ?_⟩, fun X β w hb hs => ?_⟩
    · have hti' : (typeInfo e).run P w = .ok ti w := by simp [typeInfo, hti]
      rw [← hsz] at hcond
      by_cases h0 : y.toNat * szT P e = 0
      · rw [if_pos h0] at hzz; subst hzz
        simp only [execOp, hx', hy', Instr.makeSlice, Sem.run_bind, run_underlying hu, Result.andThen_ok, asInt, asIntOf, Sem.run_pure, hti', w1, w2, run_sizeOf' hz, Sem.run_ite, if_neg hcond, run_askRoom, if_pos h0, newRow, run_newObj]
        try rfl
      · rw [if_neg h0] at hzz; subst hzz
        simp only [execOp, hx', hy', Instr.makeSlice, Sem.run_bind, run_underlying hu, Result.andThen_ok, asInt, asIntOf, Sem.run_pure, hti', w1, w2, run_sizeOf' hz, Sem.run_ite, if_neg hcond, run_askRoom, if_neg h0, hzr, newRow, run_newObj]
        try rfl
    · intro ch hch; rw [List.eq_of_mem_replicate hch]; simp [hzl]
    · simp; exact Nat.mul_le_mul_right _ (by omega)
    · rw [List.getElem?_replicate] at hi
      split at hi
      case isFalse => cases hi
      rename_i hix; cases hi
      simp only [List.getElem?_map, Option.map_eq_some_iff] at hj
      obtain ⟨u, hu', rfl⟩ := hj
      have hjl : j < szT P e := by have := (List.getElem?_eq_some_iff.1 hu').1; omega
      have : (i + 1) * szT P e ≤ y.toNat * szT P e := Nat.mul_le_mul_right _ (by omega)
      rw [Nat.succ_mul] at this
      refine ⟨u, ?_, .v _⟩
      have hne : ¬ y.toNat * szT P e = 0 := by omega
      rw [if_neg hne] at hzz
      subst hzz
      have hsz2 : zv.cells.size = szT P e := by rw [← hzl, ← hze]; simp
      simp only [Array.getElem?_map]
      rw [Array.getElem?_range, if_pos (by omega)]
      simp only [Option.map_some, hsz2]
      rw [show (i * szT P e + j) % szT P e = j by rw [Nat.mul_comm, Nat.mul_add_mod]; exact Nat.mod_eq_of_lt hjl]
      rw [← hze] at hu'
      rw [Array.getElem?_toList] at hu'
      have := Array.getElem?_eq_some_iff.1 hu'
      simp [this.1, this.2]
    · have := RS.sl (X := X) (i := 0) (len := x.toNat) (cap := y.toNat) hb (by omega) hs (by simp)
      simpa using this
  all_goals exact h.elim
end
end Go.Eng
