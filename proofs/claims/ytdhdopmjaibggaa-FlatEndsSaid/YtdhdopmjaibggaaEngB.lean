/- The engine, part B: what the quiet operations (those that neither write nor make memory) give on abstract values. -/
import Derived.Test.YtdhdopmjaibggaaEngA
import Derived.Laws.Entries
import Derived.Laws.Cells
import Derived.Laws.CopyRow
set_option linter.unusedSimpArgs false
set_option linter.unusedVariables false
namespace Go.Eng
open Go Go.RowKit

/-! ### Types, by what the operations ask of them -/
def szT (P : Program) (t : TypeId) : Nat := match P.info? t with | some i => i.size | none => 0
def byT (P : Program) (t : TypeId) : Nat := match P.info? t with | some i => i.bytes | none => 0
def aggT (P : Program) (t : TypeId) : Option Bool := match P.underlying t with | some (.struct _) => some true | some (.array _ _) => some true | some _ => some false | none => none
def fldT (P : Program) (t f : Nat) : Option (Nat × TypeId) := match P.underlying t with | some (.struct fs) => (match fs[f]? with | some x => some (x.offset, x.type) | none => none) | _ => none
def slT (P : Program) (t : TypeId) : Option TypeId := match P.underlying t with | some (.slice e) => some e | _ => none
def arT (P : Program) (t : TypeId) : Option (Nat × TypeId) := match P.underlying t with | some (.array n e) => some (n, e) | _ => none
def ptT (P : Program) (t : TypeId) : Option TypeId := match P.underlying t with | some (.pointer e) => some e | _ => none
def zeT (P : Program) (t : TypeId) : Option (List Value) := match P.info? t with | some i => (match i.zero with | some z => some z.cells.toList | none => none) | none => none
def ikT (P : Program) (t : TypeId) : Option IntKind := match P.underlying t with | some (.int k) => some k | _ => none

theorem run_sizeOf' {P : Program} {t : TypeId} (h : 0 < szT P t) (w : World) : (sizeOf t).run P w = .ok (szT P t) w := by
  unfold szT at *
  cases hi : P.info? t with
  | none => simp [hi] at h
  | some i => simp [sizeOf, typeInfo, hi]

theorem run_isAgg' {P : Program} {t : TypeId} {b : Bool} (h : aggT P t = some b) (w : World) : (isAgg t).run P w = .ok b w := by
  unfold aggT at h
  cases hu : P.underlying t with
  | none => simp [hu] at h
  | some d => cases d <;> simp_all [isAgg, run_underlying hu]

theorem und_of_fldT {P : Program} {t f o ft : Nat} (h : fldT P t f = some (o, ft)) : ∃ fs x, P.underlying t = some (.struct fs) ∧ fs[f]? = some x ∧ x.offset = o ∧ x.type = ft := by
  unfold fldT at h
  split at h
  · rename_i fs hu
    cases hx : fs[f]? with
    | none => simp [hx] at h
    | some x =>
      simp only [hx, Option.some.injEq, Prod.mk.injEq] at h
      exact ⟨fs, x, hu, hx, h.1, h.2⟩
  · cases h
theorem und_of_slT {P : Program} {t e : Nat} (h : slT P t = some e) : P.underlying t = some (.slice e) := by
  unfold slT at h; split at h
  · rename_i e' hu; cases h; exact hu
  · cases h
theorem und_of_arT {P : Program} {t e n : Nat} (h : arT P t = some (n, e)) : P.underlying t = some (.array n e) := by
  unfold arT at h; split at h
  · rename_i n' e' hu; cases h; exact hu
  · cases h
theorem und_of_ptT {P : Program} {t e : Nat} (h : ptT P t = some e) : P.underlying t = some (.pointer e) := by
  unfold ptT at h; split at h
  · rename_i e' hu; cases h; exact hu
  · cases h
theorem und_of_ikT {P : Program} {t : Nat} {k : IntKind} (h : ikT P t = some k) : P.underlying t = some (.int k) := by
  unfold ikT at h; split at h
  · rename_i k' hu; cases h; exact hu
  · cases h

/-- Where the parts of a struct's or an array's value begin, and how long they are. -/
def bldT (P : Program) (t : TypeId) : Option (List (Nat × Nat)) :=
  match P.underlying t with
  | some (.struct fs) => if (fs.all fun f => decide (0 < szT P f.type)) = true then some (fs.toList.map fun f => (f.offset, szT P f.type)) else none
  | some (.array n e) => if 0 < szT P e then some ((List.range n).map fun i => (i * szT P e, szT P e)) else none
  | _ => none

/-! ### A value's cells -/
def oneA : AV → Bool
  | .v x => x.oneCell'
  | .g _ | .t _ | .unk => false
  | _ => true
def cellsA : AV → Option (List AV)
  | .g l => some l
  | .v x => if x.oneCell' then some [.v x] else none
  | .t _ | .unk => none
  | x => some [x]
def ofV : Value → AV
  | .agg cs => .g (cs.toList.map .v)
  | x => .v x

section
variable {X : Nat → Prop} {β : Bt} {w : World}
theorem RS.ofV (x : Value) : RS X β w (ofV x) x := by
  unfold Eng.ofV
  split
  · rename_i cs
    refine .g (by simp) fun k s u hs hu => ?_
    simp only [List.getElem?_map, Option.map_eq_some_iff, Array.getElem?_toList] at hs
    obtain ⟨a, ha, rfl⟩ := hs
    rw [hu] at ha; cases ha; exact .v _
  · exact .v _

theorem RS.one {a : AV} {x : Value} (h : RS X β w a x) (ho : oneA a = true) : x.oneCell' = true := by
  cases h <;> simp_all [oneA, Value.oneCell']

theorem RS.cells {a : AV} {x : Value} {l : List AV} (h : RS X β w a x) (hc : cellsA a = some l) :
    l.length = x.cells.size ∧ ∀ (k : Nat) (s : AV) (u : Value), l[k]? = some s → x.cells[k]? = some u → RS X β w s u := by
  have single : ∀ {a : AV} {x : Value}, RS X β w a x → x.cells = #[x] → [a].length = x.cells.size ∧ ∀ (k : Nat) (s : AV) (u : Value), [a][k]? = some s → x.cells[k]? = some u → RS X β w s u := by
    intro a x h hx
    rw [hx]
    refine ⟨rfl, fun k s u hs hu => ?_⟩
    match k with
    | 0 => simp at hs hu; subst hs; subst hu; exact h
    | k + 1 => simp at hs
  cases h with
  | g hl hR => simp only [cellsA, Option.some.injEq] at hc; subst hc; exact ⟨hl, hR⟩
  | v x =>
    simp only [cellsA] at hc
    split at hc
    · cases hc; refine single (.v x) ?_; cases x <;> simp_all [Value.oneCell', Value.cells]
    · cases hc
  | unk x => simp [cellsA] at hc
  | t hl hR => simp [cellsA] at hc
  | ptr h => simp only [cellsA, Option.some.injEq] at hc; subst hc; exact single (.ptr h) rfl
  | sl h hl hs hz => simp only [cellsA, Option.some.injEq] at hc; subst hc; exact single (.sl h hl hs hz) rfl
  | slz => simp only [cellsA, Option.some.injEq] at hc; subst hc; exact single .slz rfl
  | ez => simp only [cellsA, Option.some.injEq] at hc; subst hc; exact single .ez rfl
  | ro0 => simp only [cellsA, Option.some.injEq] at hc; subst hc; exact single .ro0 rfl
  | ro u hX hb hl hd hu hR => simp only [cellsA, Option.some.injEq] at hc; subst hc; exact single (.ro u hX hb hl hd hu hR) rfl
  | rp u hX hb hu hR => simp only [cellsA, Option.some.injEq] at hc; subst hc; exact single (.rp u hX hb hu hR) rfl
  | fn hl hR => simp only [cellsA, Option.some.injEq] at hc; subst hc; exact single (.fn hl hR) rfl
end

/-! ### The operations -/
/-- Loading from cell j on of a chunk. -/
def loadK (P : Program) (t : TypeId) (c : List AV) (j : Nat) (K : AV → Prop) : Prop :=
  match aggT P t with
  | some true => (0 < szT P t ∧ j + szT P t ≤ c.length) ∧ K (.g ((c.drop j).take (szT P t)))
  | some false => ∃ s, c[j]? = some s ∧ K s
  | none => False

/-- A part of a struct's or array's value. -/
def partK (P : Program) (t : TypeId) (c : List AV) (j : Nat) (K : AV → Prop) : Prop := loadK P t c j K

theorem run_loadVar' {P : Program} {w : World} {X : Nat → Prop} {β : Bt} {t : TypeId} {c : List AV} {j : Nat} {K : AV → Prop} {b o : Nat} {u : Nat → Value}
    (h : loadK P t c j K) (hu : ∀ k, k < c.length → w.cell? ⟨b, o + k, none⟩ = some (u k)) (hR : ∀ (k : Nat) (s : AV), c[k]? = some s → RS X β w s (u k)) :
    ∃ av x, K av ∧ (loadVar t ⟨b, o + j, none⟩).run P w = .ok x w ∧ RS X β w av x := by
  unfold loadK at h
  split at h
  · rename_i ha
    obtain ⟨⟨h1, h2⟩, hK⟩ := h
    refine ⟨_, .agg ((List.range (szT P t)).map fun k => u (j + k)).toArray, hK, ?_, ?_⟩
    · have hl := run_loadCells (P := P) w ⟨b, o + j, none⟩ (szT P t) (fun k => u (j + k)) (fun k hk => by
        unfold Addr.add
        split
        · rename_i hk0; subst hk0; exact hu j (by omega)
        · simp only [Nat.add_assoc]; exact hu (j + k) (by omega))
      simp [loadVar, run_isAgg' ha, run_sizeOf' h1, hl]
    · refine .g (by simp; omega) fun k s x hs hx => ?_
      simp only [List.getElem?_toArray, List.getElem?_map, List.getElem?_take, List.getElem?_drop] at hs hx
      split at hs
      · rename_i hk
        rw [List.getElem?_range hk] at hx
        simp only [Option.map_some, Option.some.injEq] at hx
        subst hx
        exact hR _ _ hs
      · cases hs
  · rename_i ha
    obtain ⟨s, hs, hK⟩ := h
    have hj : j < c.length := (List.getElem?_eq_some_iff.1 hs).1
    exact ⟨s, u j, hK, by simp [loadVar, run_isAgg' ha, hu j hj], hR j s hs⟩
  · exact h.elim

theorem run_part' {P : Program} {w : World} {X : Nat → Prop} {β : Bt} {t : TypeId} {c : List AV} {j : Nat} {K : AV → Prop} {cs : Array Value}
    (h : partK P t c j K) (hl : c.length = cs.size) (hR : ∀ (k : Nat) (s : AV) (u : Value), c[k]? = some s → cs[k]? = some u → RS X β w s u) :
    ∃ av x, K av ∧ (part t cs j).run P w = .ok x w ∧ RS X β w av x := by
  unfold partK loadK at h
  split at h
  · rename_i ha
    obtain ⟨⟨h1, h2⟩, hK⟩ := h
    refine ⟨_, .agg (cs.extract j (j + szT P t)), hK, by simp [part, run_isAgg' ha, run_sizeOf' h1], ?_⟩
    refine .g (by simp; omega) fun k s x hs hx => ?_
    simp only [List.getElem?_take, List.getElem?_drop, Array.getElem?_extract] at hs hx
    split at hs
    · rename_i hk
      split at hx
      · exact hR _ _ _ hs hx
      · cases hx
    · cases hs
  · rename_i ha
    obtain ⟨s, hs, hK⟩ := h
    have hj : j < cs.size := by have := (List.getElem?_eq_some_iff.1 hs).1; omega
    exact ⟨s, cs[j], hK, by simp [part, run_isAgg' ha, hj], hR j s _ hs (by simp [hj])⟩
  · exact h.elim

/-- Two plain values under an operator. -/
def binV (op : BinOp) (a b : Value) (K : AV → Prop) : Prop :=
  match op, a, b with
  | .add, .int k x, .int k' y => k = k' ∧ K (.v (.int k (k.wrap (x + y))))
  | .sub, .int k x, .int k' y => k = k' ∧ K (.v (.int k (k.wrap (x - y))))
  | .mul, .int k x, .int k' y => k = k' ∧ K (.v (.int k (k.wrap (x * y))))
  | .quo, .int k x, .int k' y => k = k' ∧ y ≠ 0 ∧ K (.v (.int k (k.wrap (x.tdiv y))))
  | .rem, .int k x, .int k' y => k = k' ∧ y ≠ 0 ∧ K (.v (.int k (x.tmod y)))
  | .and, .int k x, .int k' y => k = k' ∧ K (.v (.int k (k.wrap (BitVec.ofInt k.bits x &&& BitVec.ofInt k.bits y).toNat)))
  | .or, .int k x, .int k' y => k = k' ∧ K (.v (.int k (k.wrap (BitVec.ofInt k.bits x ||| BitVec.ofInt k.bits y).toNat)))
  | .xor, .int k x, .int k' y => k = k' ∧ K (.v (.int k (k.wrap (BitVec.ofInt k.bits x ^^^ BitVec.ofInt k.bits y).toNat)))
  | .shl, .int k x, .int _ y => 0 ≤ y ∧ K (.v (.int k (k.wrap (x * 2 ^ (min y.toNat k.bits)))))
  | .shr, .int k x, .int _ y => 0 ≤ y ∧ K (.v (.int k (x.fdiv (2 ^ (min y.toNat k.bits)))))
  | .eql, .int k x, .int k' y => k = k' ∧ K (.v (.bool (decide (x = y))))
  | .neq, .int k x, .int k' y => k = k' ∧ K (.v (.bool (!decide (x = y))))
  | .lss, .int k x, .int k' y => k = k' ∧ K (.v (.bool (decide (x < y))))
  | .leq, .int k x, .int k' y => k = k' ∧ K (.v (.bool (decide (x ≤ y))))
  | .gtr, .int k x, .int k' y => k = k' ∧ K (.v (.bool (decide (y < x))))
  | .geq, .int k x, .int k' y => k = k' ∧ K (.v (.bool (decide (y ≤ x))))
  | .add, .string x, .string y => x.size + y.size ≤ 9223372036854775807 ∧ K (.v (.string (x ++ y)))
  | .eql, .string x, .string y => K (.v (.bool (x.toList == y.toList)))
  | .neq, .string x, .string y => K (.v (.bool (!(x.toList == y.toList))))
  | _, _, _ => False

theorem binV_sound {P : Program} {w : World} {op : BinOp} {t : TypeId} {xo yo : Operand} {a b : Value} {K : AV → Prop} (h : binV op a b K) :
    ∃ r, K (.v r) ∧ ((do eqGuard op t xo yo a b; binOp op t a b : Sem Value)).run P w = .ok r w := by
  unfold binV at h
  split at h
  all_goals first
    | exact h.elim
    | (obtain ⟨rfl, hy, hK⟩ := h; refine ⟨_, hK, ?_⟩; simp [eqGuard, binOp, Op.intDiv, hy]; done)
    | (obtain ⟨rfl, hK⟩ := h; refine ⟨_, hK, ?_⟩; simp [eqGuard, binOp, Op.intArith, Op.intCmp, Op.intBits, bne]; done)
    | (obtain ⟨rfl, hK⟩ := h; refine ⟨_, hK, ?_⟩; simp [eqGuard, binOp, Op.intArith, Op.intCmp, Op.intBits, bne]; rfl)
    | (obtain ⟨hy, hK⟩ := h; refine ⟨_, hK, ?_⟩; simp [eqGuard, binOp, Op.shift, Int.not_lt.2 hy]; done)
    | (obtain ⟨hy, hK⟩ := h; refine ⟨_, hK, ?_⟩; rename_i x y; have h2 : ¬ ((x.size + y.size : Nat) : Int) > IntKind.i64.max := (by have : IntKind.i64.max = 9223372036854775807 := rfl; rw [this]; omega); simp only [eqGuard, binOp, Op.stringOp, h2, Sem.run_bind]; rfl)
    | (refine ⟨_, h, ?_⟩; simp [eqGuard, binOp, Op.stringOp]; done)

/-- Two bools, compared. -/
def boolV (o : BinOp) (a b : Bool) (K : AV → Prop) : Prop :=
  match o with
  | .eql => K (.v (.bool (a == b)))
  | .neq => K (.v (.bool (!(a == b))))
  | _ => False
/-! ### Structs and arrays of ints, compared -/
def intsA : List AV → Option (List Int)
  | [] => some []
  | .v (.int .i64 x) :: r => (intsA r).map (x :: ·)
  | _ => none
abbrev aggI (xs : List Int) : Value := .agg (xs.map fun x => Value.int .i64 x).toArray
/-- Values of this type are n ints, and are compared so. -/
def EqK (P : Program) (t : TypeId) (n : Nat) : Prop :=
  ∀ (xs ys : List Int), xs.length = n → ys.length = n → ∀ (w : World) (xo yo : Operand),
    ((do eqGuard .eql t xo yo (aggI xs) (aggI ys); binOp .eql t (aggI xs) (aggI ys) : Sem Value)).run P w = .ok (.bool (decide (xs = ys))) w ∧
    ((do eqGuard .neq t xo yo (aggI xs) (aggI ys); binOp .neq t (aggI xs) (aggI ys) : Sem Value)).run P w = .ok (.bool (!decide (xs = ys))) w
def aggV (P : Program) (op : BinOp) (t : TypeId) (l l' : List AV) (K : AV → Prop) : Prop :=
  match intsA l, intsA l' with
  | some xs, some ys => (xs.length = ys.length ∧ EqK P t xs.length) ∧ (match op with | .eql => K (.v (.bool (decide (xs = ys)))) | .neq => K (.v (.bool (!decide (xs = ys)))) | _ => False)
  | _, _ => False
theorem intsA_rs {X : Nat → Prop} {β : Bt} {w : World} : ∀ {l : List AV} {xs : List Int} {vs : List Value}, intsA l = some xs → l.length = vs.length →
    (∀ (k : Nat) (s : AV) (u : Value), l[k]? = some s → vs[k]? = some u → RS X β w s u) → vs = xs.map fun x => Value.int .i64 x
  | [], xs, [], h, _, _ => by simp [intsA] at h; subst h; rfl
  | a :: l, xs, v :: vs, h, hl, hR => by
    have h0 := hR 0 a v rfl rfl
    have ht := fun k s u h1 h2 => hR (k + 1) s u h1 h2
    unfold intsA at h
    split at h
    · rename_i h'; cases h'
    · rename_i x r h'
      cases h'
      cases h0
      cases hr : intsA l with
      | none => rw [hr] at h; cases h
      | some ys =>
        rw [hr] at h
        simp at h
        subst h
        have := intsA_rs hr (by simpa using hl) ht
        rw [this]; rfl
    · cases h

/-! ### All quiet operations -/
def fillA (place : Nat → Option (Nat × Nat)) (cells : List AV) : List (Nat × AV) → Option (List AV)
  | [] => some cells
  | (i, a) :: r =>
    match place i, cellsA a with
    | some (o, z), some l => if l.length = z ∧ o + l.length ≤ cells.length then fillA place (cells.take o ++ l ++ cells.drop (o + l.length)) r else none
    | _, _ => none

def lenA : AV → Option Nat
  | .ro _ l => some l.length
  | .ez => some 0
  | .sl _ _ n => some n
  | .v (.slice _ n _) => some n
  | .v (.string s) => some s.size
  | _ => none

/-- The place of an index or a bound in an int. -/
def asI : AV → Option (IntKind × Int)
  | .v (.int k i) => some (k, i)
  | _ => none

def sliceK (P : Program) (H : Nat → Option Blk) (t : TypeId) (x : AV) (lo hi mx : Option AV) (K : AV → Prop) : Prop :=
  match lenA x with
  | none => False
  | some n =>
    ∃ l h : Nat,
      (match lo with | none => l = 0 | some a => ∃ k i, asI a = some (k, i) ∧ i = (l : Int)) ∧
      (match hi with | none => h = n ∧ mx = none | some a => ∃ k i, asI a = some (k, i) ∧ i = (h : Int)) ∧
      (match mx with | none => True | some a => ∃ k i, asI a = some (k, i) ∧ i = (h : Int)) ∧ l ≤ h ∧ h ≤ n ∧
      match x with
      | .v (.string s) => mx = none ∧ P.underlying t = some .string ∧ K (.v (.string (s.extract l h)))
      | .ro e c => (∃ d, slT P t = some d ∧ szT P d = e ∧ 0 < e) ∧ K (.ro e ((c.take h).drop l))
      | .sl m i _ => ∃ d, slT P t = some d ∧ 0 < szT P d ∧ (match H m with | some k => k.e = szT P d ∧ K (.sl m (i + l) (h - l)) | none => False)
      | .v (.slice none 0 0) => (∃ d, slT P t = some d ∧ 0 < szT P d) ∧ K (.v (.slice none 0 0))
      | _ => False

def qev (P : Program) (ρ : Operand → AV) (H : Nat → Option Blk) (op : Op) (K : AV → Prop) : Prop :=
  match op with
  | .move x | .assign x => K (ρ x)
  | .pick c a b => (match ρ c with | .v (.bool z) => if z then K (ρ a) else K (ρ b) | _ => False)
  | .load t a =>
    (match ρ a with
     | .rp c j => loadK P t c j K
     | .ptr n i j => (match H n with | some k => ∃ ch, k.l[i]? = some ch ∧ loadK P t ch j K | none => False)
     | _ => False)
  | .fieldAddr s x f =>
    (match fldT P s f with
     | some (o, ft) => 0 < szT P ft ∧ (match ρ x with | .ptr n i j => K (.ptr n i (j + o)) | .rp c j => K (.rp c (j + o)) | _ => False)
     | none => False)
  | .indexAddr t x ix =>
    (match asI (ρ ix) with
     | some (_, i) =>
       (match slT P t, arT P t with
        | some e, _ =>
          (match ρ x with
           | .ro z l => (szT P e = z ∧ 0 < z) ∧ 0 ≤ i ∧ ∃ ch, l[i.toNat]? = some ch ∧ K (.rp ch 0)
           | .sl n i0 len => (0 ≤ i ∧ i < len) ∧ (match H n with | some k => (k.e = szT P e ∧ 0 < k.e) ∧ K (.ptr n (i0 + i.toNat) 0) | none => False)
           | _ => False)
        | none, some (m, e) => (0 ≤ i ∧ i < m ∧ 0 < szT P e) ∧ (match ρ x with | .ptr n i0 j => K (.ptr n i0 (j + i.toNat * szT P e)) | .rp c j => K (.rp c (j + i.toNat * szT P e)) | _ => False)
        | _, _ => False)
     | none => False)
  | .field t x f =>
    (match fldT P t f, ρ x with
     | some (o, ft), .g l => partK P ft l o K
     | _, _ => False)
  | .index t x ix =>
    (match asI (ρ ix) with
     | some (_, i) =>
       (match ρ x with
        | .g l => (match arT P t with | some (m, e) => (0 ≤ i ∧ i < m ∧ 0 < szT P e) ∧ partK P e l (i.toNat * szT P e) K | none => False)
        | .v (.string s) => P.underlying t = some .string ∧ 0 ≤ i ∧ ∃ b, s[i.toNat]? = some b ∧ K (.v (.int .u8 b.toNat))
        | _ => False)
     | none => False)
  | .extract x ix => (match ρ x with | .t l => ∃ a, l[ix]? = some a ∧ K a | _ => False)
  | .binOp o t x y _ => (match ρ x, ρ y with | .v (.bool a), .v (.bool b) => P.underlying t = some .bool ∧ boolV o a b K | .v a, .v b => binV o a b K | .g l, .g l' => aggV P o t l l' K | _, _ => False)
  | .unOp o _ x =>
    (match o, ρ x with
     | .neg, .v (.int k n) => K (.v (.int k (k.wrap (0 - n))))
     | .not, .v (.bool b) => K (.v (.bool (!b)))
     | _, _ => False)
  | .convert s d x =>
    (match ρ x, ikT P d with
     | .v (.int _ n), some k => (P.underlying s).isSome = true ∧ K (.v (.int k (k.wrap n)))
     | _, _ => False)
  | .makeFunc (.func f) fst caps => fst = #[] ∧ K (.fn f (caps.toList.map ρ))
  | .nilCheck x => (match ρ x with | .ptr n i j => K (.ptr n i j) | .rp c j => K (.rp c j) | .fn f c => K (.fn f c) | _ => False)
  | .slice t x lo hi mx => (match ptT P t with | none => (match arT P t with | none => sliceK P H t (ρ x) (lo.map ρ) (hi.map ρ) (mx.map ρ) K | some _ => False) | some _ => False)
  | .build t parts =>
    (match zeT P t, bldT P t with
     | some z, some pl => ∃ c, fillA (fun i => pl[i]?) (z.map .v) (parts.toList.map fun p => (p.1, ρ p.2)) = some c ∧ K (.g c)
     | _, _ => False)
  | .call { callee := .builtin .len, args := xs, argTypes := ts } =>
    (match xs.toList, ts.toList with
     | [x], [t] => (match slT P t with
        | some _ => (match ρ x with | .v (.string _) => False | a => ∃ n, lenA a = some n ∧ K (.v (goInt n)))
        | none => P.underlying t = some .string ∧ (match ρ x with | .v (.string s) => K (.v (goInt s.size)) | _ => False))
     | _, _ => False)
  | .call { callee := .builtin .max, args := xs, argTypes := _ } =>
    (match xs.toList.map ρ with
     | [.v (.int k a), .v (.int k1 b)] => K (.v (.int k (max a b)))
     | [.v (.int k a), .v (.int k1 b), .v (.int k2 c)] => K (.v (.int k (max (max a b) c)))
     | [.v (.int k a), .v (.int k1 b), .v (.int k2 c), .v (.int k3 d)] => K (.v (.int k (max (max (max a b) c) d)))
     | _ => False)
  | .call { callee := .builtin .min, args := xs, argTypes := _ } =>
    (match xs.toList.map ρ with
     | [.v (.int k a), .v (.int k1 b)] => K (.v (.int k (min a b)))
     | [.v (.int k a), .v (.int k1 b), .v (.int k2 c)] => K (.v (.int k (min (min a b) c)))
     | _ => False)
  | _ => False
end Go.Eng
