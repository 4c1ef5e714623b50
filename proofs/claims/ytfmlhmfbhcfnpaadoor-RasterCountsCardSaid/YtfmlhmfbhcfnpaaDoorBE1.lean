/- The engine of these proofs, part 1: how a function's text is run over abstract values, and why that is right. Conditions: none (a library text). -/
import Derived.Orders
import Derived.Below
import Derived.KernelRfl
import Derived.Laws.Entries
import Derived.Laws.Cells
import Derived.Laws.CopyRow
import Derived.LaidEql
import Derived.Tactics
import Derived.Laws.Tables
namespace Go.Eng
open Go Go.RowKit

/-- Abstract values. 'v': this very value. 'ptr', 'sl': a pointer into, a slice over, the activation's own block of that name (chunk i, cell j of it). 'ez': an empty slice that has no room. 'rp', 'ro': a pointer to, a slice over, memory that is only read, with its contents. -/
inductive AV where
  | v (x : Value)
  | ptr (n i j : Nat)
  | sl (n i len : Nat)
  | rp (c : List AV) (j : Nat)
  | ro (e : Nat) (l : List (List AV))
  | fn (f : FuncId) (caps : List AV)
  | g (l : List AV)
  | t (l : List AV)
  | ez
  | tb (n : Nat) (T : TypeId)
  | unk
instance : Inhabited AV := ⟨.unk⟩

/-- A name's block, where its contents begin there, and how long a chunk is. -/
abbrev Bt := Nat → Option (Nat × Nat × Nat)

/-- A block of cells. -/
def IsC (w : World) (b : Nat) : Prop := ∃ (c : Array Value) (t : TypeId) (q : Nat × Nat), w.heap[b]? = some (Obj.cells c t q)
theorem IsC.lt {w : World} {b : Nat} (h : IsC w b) : b < w.heap.size := by
  obtain ⟨c, t, q, h⟩ := h
  exact (Array.getElem?_eq_some_iff.1 h).1
theorem IsC.to {w w' : World} {b : Nat} (h : IsC w b) (e : w'.heap[b]? = w.heap[b]?) : IsC w' b := by
  obtain ⟨c, t, q, h⟩ := h
  exact ⟨c, t, q, e.trans h⟩

inductive RS (X : Nat → Prop) (β : Bt) (w : World) : AV → Value → Prop
  | v (x : Value) : RS X β w (.v x) x
  | unk (x : Value) : RS X β w .unk x
  | tb {n b e m : Nat} {T : TypeId} {x : Value} (h : β n = some (b, 0, e)) (hs : w.shape? b = some (T, m)) : RS X β w (.tb n T) x
  | ptr {n i j b o e : Nat} (h : β n = some (b, o, e)) : RS X β w (.ptr n i j) (.pointer (some ⟨b, o + i * e + j, none⟩))
  | sl {n i len cap b o e m : Nat} {t : TypeId} (h : β n = some (b, o, e)) (hl : len ≤ cap) (hs : w.shape? b = some (t, m)) (hc : o + (i + cap) * e ≤ m) :
      RS X β w (.sl n i len) (.slice (some ⟨b, o + i * e, none⟩) len cap)
  | slz {n i : Nat} {a : Option Addr} : RS X β w (.sl n i 0) (.slice a 0 0)
  | ez {a : Option Addr} : RS X β w .ez (.slice a 0 0)
  | ro0 {e cap : Nat} {a : Option Addr} : RS X β w (.ro e []) (.slice a 0 cap)
  | ro {e b o cap : Nat} {l : List (List AV)} (u : Nat → Value) (hX : ¬ X b) (hb : IsC w b) (hl : l.length ≤ cap)
      (hd : ∀ c ∈ l, c.length = e) (hu : ∀ k, k < l.length * e → w.cell? ⟨b, o + k, none⟩ = some (u k))
      (hR : ∀ (i j : Nat) (c : List AV) (s : AV), l[i]? = some c → c[j]? = some s → RS X β w s (u (i * e + j))) :
      RS X β w (.ro e l) (.slice (some ⟨b, o, none⟩) l.length cap)
  | rp {c : List AV} {j b o : Nat} (u : Nat → Value) (hX : ¬ X b) (hb : IsC w b)
      (hu : ∀ k, k < c.length → w.cell? ⟨b, o + k, none⟩ = some (u k)) (hR : ∀ (k : Nat) (s : AV), c[k]? = some s → RS X β w s (u k)) :
      RS X β w (.rp c j) (.pointer (some ⟨b, o + j, none⟩))
  | fn {f : FuncId} {caps : List AV} {vs : Array Value} (hl : caps.length = vs.size)
      (hR : ∀ (k : Nat) (s : AV) (u : Value), caps[k]? = some s → vs[k]? = some u → RS X β w s u) : RS X β w (.fn f caps) (.func (.func f) #[] vs)
  | g {l : List AV} {cs : Array Value} (hl : l.length = cs.size)
      (hR : ∀ (k : Nat) (s : AV) (u : Value), l[k]? = some s → cs[k]? = some u → RS X β w s u) : RS X β w (.g l) (.agg cs)
  | t {l : List AV} {cs : Array Value} (hl : l.length = cs.size)
      (hR : ∀ (k : Nat) (s : AV) (u : Value), l[k]? = some s → cs[k]? = some u → RS X β w s u) : RS X β w (.t l) (.tuple cs)

/-- What keeps the meaning: the world may turn in the blocks of X and grow. -/
structure Mono (X : Nat → Prop) (β : Bt) (w : World) (X' : Nat → Prop) (β' : Bt) (w' : World) : Prop where
  hX : ∀ b, X' b → ¬ X b → w.heap.size ≤ b
  hβ : ∀ n r, β n = some r → β' n = some r
  hz : w.heap.size ≤ w'.heap.size
  hw : ∀ b, b < w.heap.size → ¬ X b → w'.heap[b]? = w.heap[b]?
  hs : ∀ b t m, w.shape? b = some (t, m) → w'.shape? b = some (t, m)

theorem Mono.refl (X : Nat → Prop) (β : Bt) (w : World) : Mono X β w X β w :=
  ⟨fun _ h h' => absurd h h', fun _ _ h => h, Nat.le_refl _, fun _ _ _ => rfl, fun _ _ _ h => h⟩

theorem cell_of_heap {w w' : World} {a : Addr} (h : w'.heap[a.block]? = w.heap[a.block]?) : w'.cell? a = w.cell? a := by
  unfold World.cell?; rw [h]
theorem shape_of_heap {w w' : World} {b : Nat} (h : w'.heap[b]? = w.heap[b]?) : w'.shape? b = w.shape? b := by
  unfold World.shape?; rw [h]

theorem RS.mono {X X' : Nat → Prop} {β β' : Bt} {w w' : World} (m : Mono X β w X' β' w') {a : AV} {x : Value} (h : RS X β w a x) : RS X' β' w' a x := by
  have keep : ∀ b, ¬ X b → b < w.heap.size → ¬ X' b := fun b h1 h2 h3 => by have := m.hX b h3 h1; omega
  induction h with
  | v x => exact .v x
  | unk x => exact .unk x
  | tb h hs => exact .tb (m.hβ _ _ h) (m.hs _ _ _ hs)
  | ptr h => exact .ptr (m.hβ _ _ h)
  | sl h hl hs hc => exact .sl (m.hβ _ _ h) hl (m.hs _ _ _ hs) hc
  | slz => exact .slz
  | ez => exact .ez
  | ro0 => exact .ro0
  | ro u hX hb hl hd hu _ ih =>
    exact .ro u (keep _ hX hb.lt) (hb.to (m.hw _ hb.lt hX)) hl hd (fun k hk => by rw [cell_of_heap (m.hw _ hb.lt hX)]; exact hu k hk) ih
  | rp u hX hb hu _ ih =>
    exact .rp u (keep _ hX hb.lt) (hb.to (m.hw _ hb.lt hX)) (fun k hk => by rw [cell_of_heap (m.hw _ hb.lt hX)]; exact hu k hk) ih
  | fn hl _ ih => exact .fn hl ih
  | g hl _ ih => exact .g hl ih
  | t hl _ ih => exact .t hl ih

/-- The X alone gets smaller. -/
theorem RS.anti {X X' : Nat → Prop} {β : Bt} {w : World} (hX : ∀ b, X' b → X b) {a : AV} {x : Value} (h : RS X β w a x) : RS X' β w a x :=
  h.mono ⟨fun b h1 h2 => absurd (hX b h1) h2, fun _ _ h => h, Nat.le_refl _, fun _ _ _ => rfl, fun _ _ _ h => h⟩

/-- An own block: how long its chunks are, and the chunks. -/
structure Blk where
  e : Nat
  l : List (List AV)
instance : Inhabited Blk := ⟨⟨0, []⟩⟩

def OwnR (X : Nat → Prop) (β : Bt) (w : World) (n : Nat) (k : Blk) : Prop :=
  (∃ (b o : Nat) (c : Array Value) (t : TypeId), β n = some (b, o, k.e) ∧ w.heap[b]? = some (.cells c t (0, 0)) ∧ (∀ ch ∈ k.l, ch.length = k.e) ∧
      o + k.l.length * k.e ≤ c.size ∧ ∀ (i j : Nat) (ch : List AV) (s : AV), k.l[i]? = some ch → ch[j]? = some s → ∃ u, c[o + i * k.e + j]? = some u ∧ RS X β w s u) ∨
  (k.l = [] ∧ β n = none)

/-- The same block, untouched, under a step that keeps meanings. -/
theorem OwnR.mono {X X' : Nat → Prop} {β β' : Bt} {w w' : World} (m : Mono X β w X' β' w') {n : Nat} {k : Blk} (h : OwnR X β w n k)
    (hb : ∀ b o e, β n = some (b, o, e) → w'.heap[b]? = w.heap[b]?) (hn : β n = none → β' n = none) : OwnR X' β' w' n k := by
  rcases h with ⟨b, o, c, t, h1, h2, h3, h4, h5⟩ | ⟨h1, h2⟩
  · refine .inl ⟨b, o, c, t, m.hβ _ _ h1, by rw [hb _ _ _ h1]; exact h2, h3, h4, fun i j ch s hi hj => ?_⟩
    obtain ⟨u, hu, hr⟩ := h5 i j ch s hi hj
    exact ⟨u, hu, hr.mono m⟩
  · exact .inr ⟨h1, hn h2⟩

/-- The run's one object that is no memory: a map and its entries, the oldest first; or the iterator of a string. -/
inductive MpE where
  | map (l : List (Value × Value))
  | str (s : ByteArray) (pos : Nat)
def mpO : MpE → Obj
  | .map l => .map (l.mapIdx fun i p => ⟨p.1, p.2, i⟩).toArray l.length
  | .str s pos => .stringIter s pos
theorem mpO_c (l : MpE) (c : Array Value) (t : TypeId) (q : Nat × Nat) : mpO l ≠ .cells c t q := by cases l <;> simp [mpO]
/-- What an iterator is still to yield, to which loop; or the run's one map, once it is made, and its entries, the oldest first. -/
inductive Yl where
  | it (l : Nat) (rest : List (List AV))
  | mp (m : Option (Nat × MpE))

/-- Beside the state: the slots of the frames around a round's (sv), and what is to be yielded, or the map (y). -/
structure Aux where
  sv : List (Nat → AV)
  y : Option Yl
def Aux.nil : Aux := ⟨[], none⟩

structure AState where
  n : Nat
  t : Nat → AV
  h : List (Nat × Blk)
  k : Nat
  x : Aux

def find (h : List (Nat × Blk)) (n : Nat) : Option Blk :=
  match h with
  | [] => none
  | (m, b) :: r => if m = n then some b else find r n

theorem find_mem {h : List (Nat × Blk)} {n : Nat} {b : Blk} (e : find h n = some b) : (n, b) ∈ h := by
  induction h with
  | nil => simp [find] at e
  | cons p r ih =>
    obtain ⟨m, c⟩ := p
    unfold find at e
    split at e
    · rename_i hm; subst hm; cases e; exact List.mem_cons_self ..
    · exact List.mem_cons_of_mem _ (ih e)

/-- What one activation may not touch for reading (F: its callers' own blocks), what it may write of what was there (Pm), and the world in which it began. -/
structure Ctx where
  P : Program
  F : Nat → Prop
  Pm : Nat → Prop
  W : World
  sv : List (Nat → Value)
  y : Option Yl
  ro : Option Nat

/-- What was there when the call began is as it was, but for the blocks that were handed over. -/
structure Fr (Pm : Nat → Prop) (W w : World) : Prop where
  os : w.os = W.os
  tape : w.tape = W.tape
  output : w.output = W.output
  size : W.heap.size ≤ w.heap.size
  block : ∀ b, b < W.heap.size → ¬ Pm b → w.heap[b]? = W.heap[b]?
  shape : ∀ b t m, W.shape? b = some (t, m) → w.shape? b = some (t, m)

def XOf (F : Nat → Prop) (β : Bt) (h : List (Nat × Blk)) (b : Nat) : Prop := F b ∨ ∃ p ∈ h, ∃ o e, β p.1 = some (b, o, e)

/-- The mark of a loop over a function among the deferred calls: nothing is to be called. -/
def Mark (C : Ctx) (w : World) (d : Deferred) : Prop :=
  ∃ D, d = { target := .collected D, args := #[] } ∧ w.heap[D]? = some (Obj.deferred (some [])) ∧ (C.W.heap.size ≤ D ∨ C.Pm D) ∧ ¬ C.F D

/-- What is kept beside the slots: the marks, and the record of the loop whose round this is. -/
structure Bk (C : Ctx) (w : World) (ds : List Deferred) : Prop where
  marks : ∀ d ∈ ds, Mark C w d
  nd : ds.Nodup
  rd : ∀ l, C.ro = some l → (∃ r : Loop, w.heap[l]? = some (Obj.loop r)) ∧ ¬ C.F l
  mp : ∀ b l, C.y = some (.mp (some (b, l))) → w.heap[b]? = some (mpO l) ∧ (C.W.heap.size ≤ b ∨ C.Pm b) ∧ ¬ C.F b

theorem Bk.keep {C : Ctx} {w w' : World} {ds : List Deferred} (h : Bk C w ds) (hk : ∀ (D : Nat) (o : Obj), w.heap[D]? = some o → (∀ c t q, o ≠ .cells c t q) → ¬ C.F D → w'.heap[D]? = w.heap[D]?) : Bk C w' ds := by
  refine ⟨fun d hd => ?_, h.nd, fun l hl => ?_, fun b l hb => ?_⟩
  · obtain ⟨D, h1, h2, h3, h4⟩ := h.marks d hd
    exact ⟨D, h1, (hk _ _ h2 (fun _ _ _ => by simp) h4).trans h2, h3, h4⟩
  · obtain ⟨⟨r, hr⟩, hF⟩ := h.rd l hl
    exact ⟨⟨r, (hk _ _ hr (fun _ _ _ => by simp) hF).trans hr⟩, hF⟩
  · obtain ⟨h1, h2, h3⟩ := h.mp b l hb
    exact ⟨(hk _ _ h1 (fun _ _ _ => mpO_c _ _ _ _) h3).trans h1, h2, h3⟩
theorem lt_of_get {w : World} {D : Nat} {o : Obj} (h : w.heap[D]? = some o) : D < w.heap.size := (Array.getElem?_eq_some_iff.1 h).1

/-- The saved slots. -/
def SvR (X : Nat → Prop) (β : Bt) (w : World) (l : List (Nat → AV)) (v : List (Nat → Value)) : Prop :=
  l.length = v.length ∧ ∀ (j : Nat) (f : Nat → AV) (g : Nat → Value), l[j]? = some f → v[j]? = some g → ∀ i, RS X β w (f i) (g i)
theorem SvR.mono {X X' : Nat → Prop} {β β' : Bt} {w w' : World} (m : Mono X β w X' β' w') {l : List (Nat → AV)} {v : List (Nat → Value)} (h : SvR X β w l v) : SvR X' β' w' l v :=
  ⟨h.1, fun j f g hf hg i => (h.2 j f g hf hg i).mono m⟩

structure StR (C : Ctx) (s : AState) (β : Bt) (a : Act) (w : World) : Prop where
  defers : Bk C w a.defers
  size : a.tmps.size = s.n
  tm : ∀ i : Nat, RS (XOf C.F β s.h) β w (s.t i) (a.tmps.getD i undef)
  own : ∀ p ∈ s.h, OwnR (XOf C.F β s.h) β w p.1 p.2
  lt : ∀ p ∈ s.h, p.1 < s.k
  βlt : ∀ n r, β n = some r → n < s.k
  nd : (s.h.map (·.1)).Nodup
  inj : ∀ p ∈ s.h, ∀ q ∈ s.h, ∀ b o e o' e', β p.1 = some (b, o, e) → β q.1 = some (b, o', e') → p.1 = q.1
  mine : ∀ p ∈ s.h, ∀ b o e, β p.1 = some (b, o, e) → (C.W.heap.size ≤ b ∨ C.Pm b) ∧ ¬ C.F b
  fr : Fr C.Pm C.W w
  Flt : ∀ b, C.F b → b < C.W.heap.size
  sv : SvR (XOf C.F β s.h) β w s.x.sv C.sv
  yy : s.x.y = C.y

def St (C : Ctx) (s : AState) (a : Act) (w : World) : Prop := ∃ β, StR C s β a w

end Go.Eng

set_option linter.unusedSimpArgs false
set_option linter.unusedVariables false
namespace Go.Eng
open Go Go.RowKit

def szT (P : Program) (t : TypeId) : Nat := match P.info? t with | some i => i.size | none => 0
def byT (P : Program) (t : TypeId) : Nat := match P.info? t with | some i => i.bytes | none => 0
def aggT (P : Program) (t : TypeId) : Option Bool := match P.underlying t with | some (.struct _) => some true | some (.array _ _) => some true | some _ => some false | none => none
def fldT (P : Program) (t f : Nat) : Option (Nat × TypeId) := match P.underlying t with | some (.struct fs) => (match fs[f]? with | some x => some (x.offset, x.type) | none => none) | _ => none
def slT (P : Program) (t : TypeId) : Option TypeId := match P.underlying t with | some (.slice e) => some e | _ => none
def arT (P : Program) (t : TypeId) : Option (Nat × TypeId) := match P.underlying t with | some (.array n e) => some (n, e) | _ => none
def ptT (P : Program) (t : TypeId) : Option TypeId := match P.underlying t with | some (.pointer e) => some e | _ => none
def zeT (P : Program) (t : TypeId) : Option (List Value) := match P.info? t with | some i => (match i.zero with | some z => some z.cells.toList | none => none) | none => none
def ikT (P : Program) (t : TypeId) : Option IntKind := match P.underlying t with | some (.int k) => some k | _ => none

theorem run_sizeOf' {P : Program} {t : TypeId} (h : 0 < szT P t) (w : World) : (sizeOf t).run P w = .ok (szT P t) w := by
  unfold szT at *
  cases hi : P.info? t with
  | none => simp [hi] at h
  | some i => simp [sizeOf, typeInfo, hi]

theorem run_isAgg' {P : Program} {t : TypeId} {b : Bool} (h : aggT P t = some b) (w : World) : (isAgg t).run P w = .ok b w := by
  unfold aggT at h
  cases hu : P.underlying t with
  | none => simp [hu] at h
  | some d => cases d <;> simp_all [isAgg, run_underlying hu]

theorem und_of_fldT {P : Program} {t f o ft : Nat} (h : fldT P t f = some (o, ft)) : ∃ fs x, P.underlying t = some (.struct fs) ∧ fs[f]? = some x ∧ x.offset = o ∧ x.type = ft := by
  unfold fldT at h
  split at h
  · rename_i fs hu
    cases hx : fs[f]? with
    | none => simp [hx] at h
    | some x =>
      simp only [hx, Option.some.injEq, Prod.mk.injEq] at h
      exact ⟨fs, x, hu, hx, h.1, h.2⟩
  · cases h
theorem und_of_slT {P : Program} {t e : Nat} (h : slT P t = some e) : P.underlying t = some (.slice e) := by
  unfold slT at h; split at h
  · rename_i e' hu; cases h; exact hu
  · cases h
theorem und_of_arT {P : Program} {t e n : Nat} (h : arT P t = some (n, e)) : P.underlying t = some (.array n e) := by
  unfold arT at h; split at h
  · rename_i n' e' hu; cases h; exact hu
  · cases h
theorem und_of_ikT {P : Program} {t : Nat} {k : IntKind} (h : ikT P t = some k) : P.underlying t = some (.int k) := by
  unfold ikT at h; split at h
  · rename_i k' hu; cases h; exact hu
  · cases h

/-- Where the parts of a struct's or an array's value begin, and how long they are. -/
def bldT (P : Program) (t : TypeId) : Option (List (Nat × Nat)) :=
  match P.underlying t with
  | some (.struct fs) => if (fs.all fun f => decide (0 < szT P f.type)) = true then some (fs.toList.map fun f => (f.offset, szT P f.type)) else none
  | some (.array n e) => if 0 < szT P e then some ((List.range n).map fun i => (i * szT P e, szT P e)) else none
  | _ => none

def oneA : AV → Bool
  | .v x => x.oneCell'
  | .g _ | .t _ | .unk | .tb _ _ => false
  | _ => true
def cellsA : AV → Option (List AV)
  | .g l => some l
  | .v x => if x.oneCell' then some [.v x] else none
  | .t _ | .unk | .tb _ _ => none
  | x => some [x]
def ofV : Value → AV
  | .agg cs => .g (cs.toList.map .v)
  | x => .v x

section
variable {X : Nat → Prop} {β : Bt} {w : World}
theorem RS.ofV (x : Value) : RS X β w (ofV x) x := by
  unfold Eng.ofV
  split
  · rename_i cs
    refine .g (by simp) fun k s u hs hu => ?_
    simp only [List.getElem?_map, Option.map_eq_some_iff, Array.getElem?_toList] at hs
    obtain ⟨a, ha, rfl⟩ := hs
    rw [hu] at ha; cases ha; exact .v _
  · exact .v _

theorem RS.one {a : AV} {x : Value} (h : RS X β w a x) (ho : oneA a = true) : x.oneCell' = true := by
  cases h <;> simp_all [oneA, Value.oneCell']

theorem RS.cells {a : AV} {x : Value} {l : List AV} (h : RS X β w a x) (hc : cellsA a = some l) :
    l.length = x.cells.size ∧ ∀ (k : Nat) (s : AV) (u : Value), l[k]? = some s → x.cells[k]? = some u → RS X β w s u := by
  have single : ∀ {a : AV} {x : Value}, RS X β w a x → x.cells = #[x] → [a].length = x.cells.size ∧ ∀ (k : Nat) (s : AV) (u : Value), [a][k]? = some s → x.cells[k]? = some u → RS X β w s u := by
    intro a x h hx
    rw [hx]
    refine ⟨rfl, fun k s u hs hu => ?_⟩
    match k with
    | 0 => simp at hs hu; subst hs; subst hu; exact h
    | k + 1 => simp at hs
  cases h with
  | g hl hR => simp only [cellsA, Option.some.injEq] at hc; subst hc; exact ⟨hl, hR⟩
  | v x =>
    simp only [cellsA] at hc
    split at hc
    · cases hc; refine single (.v x) ?_; cases x <;> simp_all [Value.oneCell', Value.cells]
    · cases hc
  | unk x => simp [cellsA] at hc
  | tb h hs => simp [cellsA] at hc
  | t hl hR => simp [cellsA] at hc
  | ptr h => simp only [cellsA, Option.some.injEq] at hc; subst hc; exact single (.ptr h) rfl
  | sl h hl hs hz => simp only [cellsA, Option.some.injEq] at hc; subst hc; exact single (.sl h hl hs hz) rfl
  | slz => simp only [cellsA, Option.some.injEq] at hc; subst hc; exact single .slz rfl
  | ez => simp only [cellsA, Option.some.injEq] at hc; subst hc; exact single .ez rfl
  | ro0 => simp only [cellsA, Option.some.injEq] at hc; subst hc; exact single .ro0 rfl
  | ro u hX hb hl hd hu hR => simp only [cellsA, Option.some.injEq] at hc; subst hc; exact single (.ro u hX hb hl hd hu hR) rfl
  | rp u hX hb hu hR => simp only [cellsA, Option.some.injEq] at hc; subst hc; exact single (.rp u hX hb hu hR) rfl
  | fn hl hR => simp only [cellsA, Option.some.injEq] at hc; subst hc; exact single (.fn hl hR) rfl
end

/-- Loading from cell j on of a chunk. -/
def loadK (P : Program) (t : TypeId) (c : List AV) (j : Nat) (K : AV → Prop) : Prop :=
  match aggT P t with
  | some true => (0 < szT P t ∧ j + szT P t ≤ c.length) ∧ K (.g ((c.drop j).take (szT P t)))
  | some false => ∃ s, c[j]? = some s ∧ K s
  | none => False

/-- A part of a struct's or array's value. -/
def partK (P : Program) (t : TypeId) (c : List AV) (j : Nat) (K : AV → Prop) : Prop := loadK P t c j K

theorem run_loadVar' {P : Program} {w : World} {X : Nat → Prop} {β : Bt} {t : TypeId} {c : List AV} {j : Nat} {K : AV → Prop} {b o : Nat} {u : Nat → Value}
    (h : loadK P t c j K) (hu : ∀ k, k < c.length → w.cell? ⟨b, o + k, none⟩ = some (u k)) (hR : ∀ (k : Nat) (s : AV), c[k]? = some s → RS X β w s (u k)) :
    ∃ av x, K av ∧ (loadVar t ⟨b, o + j, none⟩).run P w = .ok x w ∧ RS X β w av x := by
  unfold loadK at h
  split at h
  · rename_i ha
    obtain ⟨⟨h1, h2⟩, hK⟩ := h
    refine ⟨_, .agg ((List.range (szT P t)).map fun k => u (j + k)).toArray, hK, ?_, ?_⟩
    · have hl := run_loadCells (P := P) w ⟨b, o + j, none⟩ (szT P t) (fun k => u (j + k)) (fun k hk => by
        unfold Addr.add
        split
        · rename_i hk0; subst hk0; exact hu j (by omega)
        · simp only [Nat.add_assoc]; exact hu (j + k) (by omega))
      simp [loadVar, run_isAgg' ha, run_sizeOf' h1, hl]
    · refine .g (by simp; omega) fun k s x hs hx => ?_
      simp only [List.getElem?_toArray, List.getElem?_map, List.getElem?_take, List.getElem?_drop] at hs hx
      split at hs
      · rename_i hk
        rw [List.getElem?_range hk] at hx
        simp only [Option.map_some, Option.some.injEq] at hx
        subst hx
        exact hR _ _ hs
      · cases hs
  · rename_i ha
    obtain ⟨s, hs, hK⟩ := h
    have hj : j < c.length := (List.getElem?_eq_some_iff.1 hs).1
    exact ⟨s, u j, hK, by simp [loadVar, run_isAgg' ha, hu j hj], hR j s hs⟩
  · exact h.elim

theorem run_part' {P : Program} {w : World} {X : Nat → Prop} {β : Bt} {t : TypeId} {c : List AV} {j : Nat} {K : AV → Prop} {cs : Array Value}
    (h : partK P t c j K) (hl : c.length = cs.size) (hR : ∀ (k : Nat) (s : AV) (u : Value), c[k]? = some s → cs[k]? = some u → RS X β w s u) :
    ∃ av x, K av ∧ (part t cs j).run P w = .ok x w ∧ RS X β w av x := by
  unfold partK loadK at h
  split at h
  · rename_i ha
    obtain ⟨⟨h1, h2⟩, hK⟩ := h
    refine ⟨_, .agg (cs.extract j (j + szT P t)), hK, by simp [part, run_isAgg' ha, run_sizeOf' h1], ?_⟩
    refine .g (by simp; omega) fun k s x hs hx => ?_
    simp only [List.getElem?_take, List.getElem?_drop, Array.getElem?_extract] at hs hx
    split at hs
    · rename_i hk
      split at hx
      · exact hR _ _ _ hs hx
      · cases hx
    · cases hs
  · rename_i ha
    obtain ⟨s, hs, hK⟩ := h
    have hj : j < cs.size := by have := (List.getElem?_eq_some_iff.1 hs).1; omega
    exact ⟨s, cs[j], hK, by simp [part, run_isAgg' ha, hj], hR j s _ hs (by simp [hj])⟩
  · exact h.elim

/-- Two plain values under an operator. -/
def binV (op : BinOp) (a b : Value) (K : AV → Prop) : Prop :=
  match op, a, b with
  | .add, .int k x, .int k' y => k = k' ∧ K (.v (.int k (k.wrap (x + y))))
  | .sub, .int k x, .int k' y => k = k' ∧ K (.v (.int k (k.wrap (x - y))))
  | .mul, .int k x, .int k' y => k = k' ∧ K (.v (.int k (k.wrap (x * y))))
  | .quo, .int k x, .int k' y => k = k' ∧ y ≠ 0 ∧ K (.v (.int k (k.wrap (x.tdiv y))))
  | .rem, .int k x, .int k' y => k = k' ∧ y ≠ 0 ∧ K (.v (.int k (x.tmod y)))
  | .and, .int k x, .int k' y => k = k' ∧ K (.v (.int k (k.wrap (BitVec.ofInt k.bits x &&& BitVec.ofInt k.bits y).toNat)))
  | .or, .int k x, .int k' y => k = k' ∧ K (.v (.int k (k.wrap (BitVec.ofInt k.bits x ||| BitVec.ofInt k.bits y).toNat)))
  | .xor, .int k x, .int k' y => k = k' ∧ K (.v (.int k (k.wrap (BitVec.ofInt k.bits x ^^^ BitVec.ofInt k.bits y).toNat)))
  | .shl, .int k x, .int _ y => 0 ≤ y ∧ K (.v (.int k (k.wrap (x * 2 ^ (min y.toNat k.bits)))))
  | .shr, .int k x, .int _ y => 0 ≤ y ∧ K (.v (.int k (x.fdiv (2 ^ (min y.toNat k.bits)))))
  | .eql, .int k x, .int k' y => k = k' ∧ K (.v (.bool (decide (x = y))))
  | .neq, .int k x, .int k' y => k = k' ∧ K (.v (.bool (!decide (x = y))))
  | .lss, .int k x, .int k' y => k = k' ∧ K (.v (.bool (decide (x < y))))
  | .leq, .int k x, .int k' y => k = k' ∧ K (.v (.bool (decide (x ≤ y))))
  | .gtr, .int k x, .int k' y => k = k' ∧ K (.v (.bool (decide (y < x))))
  | .geq, .int k x, .int k' y => k = k' ∧ K (.v (.bool (decide (y ≤ x))))
  | .add, .string x, .string y => x.size + y.size ≤ 9223372036854775807 ∧ K (.v (.string (x ++ y)))
  | .eql, .string x, .string y => K (.v (.bool (x.toList == y.toList)))
  | .neq, .string x, .string y => K (.v (.bool (!(x.toList == y.toList))))
  | _, _, _ => False

theorem binV_sound {P : Program} {w : World} {op : BinOp} {t : TypeId} {xo yo : Operand} {a b : Value} {K : AV → Prop} (h : binV op a b K) :
    ∃ r, K (.v r) ∧ ((do eqGuard op t xo yo a b; binOp op t a b : Sem Value)).run P w = .ok r w := by
  unfold binV at h
  split at h
  all_goals first
    | exact h.elim
    | (obtain ⟨rfl, hy, hK⟩ := h; refine ⟨_, hK, ?_⟩; simp [eqGuard, binOp, Op.intDiv, hy]; done)
    | (obtain ⟨rfl, hK⟩ := h; refine ⟨_, hK, ?_⟩; simp [eqGuard, binOp, Op.intArith, Op.intCmp, Op.intBits, bne]; done)
    | (obtain ⟨rfl, hK⟩ := h; refine ⟨_, hK, ?_⟩; simp [eqGuard, binOp, Op.intArith, Op.intCmp, Op.intBits, bne]; rfl)
    | (obtain ⟨hy, hK⟩ := h; refine ⟨_, hK, ?_⟩; simp [eqGuard, binOp, Op.shift, Int.not_lt.2 hy]; done)
    | (obtain ⟨hy, hK⟩ := h; refine ⟨_, hK, ?_⟩; rename_i x y; have h2 : ¬ ((x.size + y.size : Nat) : Int) > IntKind.i64.max := (by have : IntKind.i64.max = 9223372036854775807 := rfl; rw [this]; omega); simp only [eqGuard, binOp, Op.stringOp, h2, Sem.run_bind]; rfl)
    | (refine ⟨_, h, ?_⟩; simp [eqGuard, binOp, Op.stringOp]; done)

/-- Two bools, compared. -/
def boolV (o : BinOp) (a b : Bool) (K : AV → Prop) : Prop :=
  match o with
  | .eql => K (.v (.bool (a == b)))
  | .neq => K (.v (.bool (!(a == b))))
  | _ => False
def intsA : List AV → Option (List Int)
  | [] => some []
  | .v (.int .i64 x) :: r => (intsA r).map (x :: ·)
  | _ => none
abbrev aggI (xs : List Int) : Value := .agg (xs.map fun x => Value.int .i64 x).toArray
/-- Values of this type are n ints, and are compared so. -/
def EqK (P : Program) (t : TypeId) (n : Nat) : Prop :=
  ∀ (xs ys : List Int), xs.length = n → ys.length = n → ∀ (w : World) (xo yo : Operand),
    ((do eqGuard .eql t xo yo (aggI xs) (aggI ys); binOp .eql t (aggI xs) (aggI ys) : Sem Value)).run P w = .ok (.bool (decide (xs = ys))) w ∧
    ((do eqGuard .neq t xo yo (aggI xs) (aggI ys); binOp .neq t (aggI xs) (aggI ys) : Sem Value)).run P w = .ok (.bool (!decide (xs = ys))) w
def aggV (P : Program) (op : BinOp) (t : TypeId) (l l' : List AV) (K : AV → Prop) : Prop :=
  match intsA l, intsA l' with
  | some xs, some ys => (xs.length = ys.length ∧ EqK P t xs.length) ∧ (match op with | .eql => K (.v (.bool (decide (xs = ys)))) | .neq => K (.v (.bool (!decide (xs = ys)))) | _ => False)
  | _, _ => False
theorem intsA_rs {X : Nat → Prop} {β : Bt} {w : World} : ∀ {l : List AV} {xs : List Int} {vs : List Value}, intsA l = some xs → l.length = vs.length →
    (∀ (k : Nat) (s : AV) (u : Value), l[k]? = some s → vs[k]? = some u → RS X β w s u) → vs = xs.map fun x => Value.int .i64 x
  | [], xs, [], h, _, _ => by simp [intsA] at h; subst h; rfl
  | a :: l, xs, v :: vs, h, hl, hR => by
    have h0 := hR 0 a v rfl rfl
    have ht := fun k s u h1 h2 => hR (k + 1) s u h1 h2
    unfold intsA at h
    split at h
    · rename_i h'; cases h'
    · rename_i x r h'
      cases h'
      cases h0
      cases hr : intsA l with
      | none => rw [hr] at h; cases h
      | some ys =>
        rw [hr] at h
        simp at h
        subst h
        have := intsA_rs hr (by simpa using hl) ht
        rw [this]; rfl
    · cases h

def fillA (place : Nat → Option (Nat × Nat)) (cells : List AV) : List (Nat × AV) → Option (List AV)
  | [] => some cells
  | (i, a) :: r =>
    match place i, cellsA a with
    | some (o, z), some l => if l.length = z ∧ o + l.length ≤ cells.length then fillA place (cells.take o ++ l ++ cells.drop (o + l.length)) r else none
    | _, _ => none

def lenA : AV → Option Nat
  | .ro _ l => some l.length
  | .ez => some 0
  | .sl _ _ n => some n
  | .v (.slice _ n _) => some n
  | .v (.string s) => some s.size
  | _ => none

/-- The place of an index or a bound in an int. -/
def asI : AV → Option (IntKind × Int)
  | .v (.int k i) => some (k, i)
  | _ => none

def sliceK (P : Program) (H : Nat → Option Blk) (t : TypeId) (x : AV) (lo hi mx : Option AV) (K : AV → Prop) : Prop :=
  match lenA x with
  | none => False
  | some n =>
    ∃ l h : Nat,
      (match lo with | none => l = 0 | some a => ∃ k i, asI a = some (k, i) ∧ i = (l : Int)) ∧
      (match hi with | none => h = n ∧ mx = none | some a => ∃ k i, asI a = some (k, i) ∧ i = (h : Int)) ∧
      (match mx with | none => True | some a => ∃ k i, asI a = some (k, i) ∧ i = (h : Int)) ∧ l ≤ h ∧ h ≤ n ∧
      match x with
      | .v (.string s) => mx = none ∧ P.underlying t = some .string ∧ K (.v (.string (s.extract l h)))
      | .ro e c => (∃ d, slT P t = some d ∧ szT P d = e ∧ 0 < e) ∧ K (.ro e ((c.take h).drop l))
      | .sl m i _ => ∃ d, slT P t = some d ∧ 0 < szT P d ∧ (match H m with | some k => k.e = szT P d ∧ K (.sl m (i + l) (h - l)) | none => False)
      | .v (.slice none 0 0) => (∃ d, slT P t = some d ∧ 0 < szT P d) ∧ K (.v (.slice none 0 0))
      | _ => False

/-- Two pointers, compared: alike, or one of them nil. -/
def ptrV (P : Program) (o : BinOp) (t : TypeId) (same : Bool) (K : AV → Prop) : Prop :=
  (∃ d, P.underlying t = some (.pointer d) ∧ 0 < szT P d) ∧ match o with | .eql => K (.v (.bool same)) | .neq => K (.v (.bool (!same))) | _ => False
def bV (P : Program) (o : BinOp) (t : TypeId) (x y : AV) (K : AV → Prop) : Prop :=
  match x, y with
  | .v (.bool a), .v (.bool b) => P.underlying t = some .bool ∧ boolV o a b K
  | .v (.pointer none), .v (.pointer none) => ptrV P o t true K
  | .v a, .v b => binV o a b K
  | .g l, .g l' => aggV P o t l l' K
  | .ptr n i j, .ptr n' i' j' => (n = n' ∧ i = i' ∧ j = j') ∧ ptrV P o t true K
  | .ptr _ _ _, .v (.pointer none) => ptrV P o t false K
  | _, _ => False
def qev (P : Program) (ρ : Operand → AV) (H : Nat → Option Blk) (op : Op) (K : AV → Prop) : Prop :=
  match op with
  | .move x | .assign x => K (ρ x)
  | .pick c a b => (match ρ c with | .v (.bool z) => if z then K (ρ a) else K (ρ b) | _ => False)
  | .load t a =>
    (match ρ a with
     | .rp c j => loadK P t c j K
     | .ptr n i j => (match H n with | some k => ∃ ch, k.l[i]? = some ch ∧ loadK P t ch j K | none => False)
     | _ => False)
  | .fieldAddr s x f =>
    (match fldT P s f with
     | some (o, ft) => 0 < szT P ft ∧ (match ρ x with | .ptr n i j => K (.ptr n i (j + o)) | .rp c j => K (.rp c (j + o)) | _ => False)
     | none => False)
  | .indexAddr t x ix =>
    (match asI (ρ ix) with
     | some (_, i) =>
       (match slT P t, arT P t with
        | some e, _ =>
          (match ρ x with
           | .ro z l => (szT P e = z ∧ 0 < z) ∧ 0 ≤ i ∧ ∃ ch, l[i.toNat]? = some ch ∧ K (.rp ch 0)
           | .sl n i0 len => (0 ≤ i ∧ i < len) ∧ (match H n with | some k => (k.e = szT P e ∧ 0 < k.e) ∧ K (.ptr n (i0 + i.toNat) 0) | none => False)
           | _ => False)
        | none, some (m, e) => (0 ≤ i ∧ i < m ∧ 0 < szT P e) ∧ (match ρ x with | .ptr n i0 j => K (.ptr n i0 (j + i.toNat * szT P e)) | .rp c j => K (.rp c (j + i.toNat * szT P e)) | _ => False)
        | _, _ => False)
     | none => False)
  | .field t x f =>
    (match fldT P t f, ρ x with
     | some (o, ft), .g l => partK P ft l o K
     | _, _ => False)
  | .index t x ix =>
    (match asI (ρ ix) with
     | some (_, i) =>
       (match ρ x with
        | .g l => (match arT P t with | some (m, e) => (0 ≤ i ∧ i < m ∧ 0 < szT P e) ∧ partK P e l (i.toNat * szT P e) K | none => False)
        | .v (.string s) => P.underlying t = some .string ∧ 0 ≤ i ∧ ∃ b, s[i.toNat]? = some b ∧ K (.v (.int .u8 b.toNat))
        | _ => False)
     | none => False)
  | .extract x ix => (match ρ x with | .t l => ∃ a, l[ix]? = some a ∧ K a | _ => False)
  | .binOp o t x y _ => bV P o t (ρ x) (ρ y) K
  | .unOp o _ x =>
    (match o, ρ x with
     | .neg, .v (.int k n) => K (.v (.int k (k.wrap (0 - n))))
     | .not, .v (.bool b) => K (.v (.bool (!b)))
     | _, _ => False)
  | .convert s d x =>
    (match ρ x, ikT P d with
     | .v (.int _ n), some k => (P.underlying s).isSome = true ∧ K (.v (.int k (k.wrap n)))
     | _, _ => False)
  | .makeFunc (.func f) fst caps => fst = #[] ∧ K (.fn f (caps.toList.map ρ))
  | .nilCheck x => (match ρ x with | .ptr n i j => K (.ptr n i j) | .rp c j => K (.rp c j) | .fn f c => K (.fn f c) | _ => False)
  | .slice t x lo hi mx => (match ptT P t with | none => (match arT P t with | none => sliceK P H t (ρ x) (lo.map ρ) (hi.map ρ) (mx.map ρ) K | some _ => False) | some _ => False)
  | .build t parts =>
    (match zeT P t, bldT P t with
     | some z, some pl => ∃ c, fillA (fun i => pl[i]?) (z.map .v) (parts.toList.map fun p => (p.1, ρ p.2)) = some c ∧ K (.g c)
     | _, _ => False)
  | .call { callee := .builtin .len, args := xs, argTypes := ts } =>
    (match xs.toList, ts.toList with
     | [x], [t] => (match slT P t with
        | some _ => (match ρ x with | .v (.string _) => False | a => ∃ n, lenA a = some n ∧ K (.v (goInt n)))
        | none => P.underlying t = some .string ∧ (match ρ x with | .v (.string s) => K (.v (goInt s.size)) | _ => False))
     | _, _ => False)
  | .call { callee := .builtin .max, args := xs, argTypes := _ } =>
    (match xs.toList.map ρ with
     | [.v (.int k a), .v (.int k1 b)] => K (.v (.int k (max a b)))
     | [.v (.int k a), .v (.int k1 b), .v (.int k2 c)] => K (.v (.int k (max (max a b) c)))
     | [.v (.int k a), .v (.int k1 b), .v (.int k2 c), .v (.int k3 d)] => K (.v (.int k (max (max (max a b) c) d)))
     | _ => False)
  | .call { callee := .builtin .min, args := xs, argTypes := _ } =>
    (match xs.toList.map ρ with
     | [.v (.int k a), .v (.int k1 b)] => K (.v (.int k (min a b)))
     | [.v (.int k a), .v (.int k1 b), .v (.int k2 c)] => K (.v (.int k (min (min a b) c)))
     | _ => False)
  | .call { callee := .builtin .unsafeSliceData, args := xs, argTypes := _ } =>
    (match xs.toList.map ρ with
     | [.sl m i len] => 0 < len ∧ K (.ptr m i 0)
     | _ => False)
  | _ => False
end Go.Eng

set_option linter.unusedSimpArgs false
set_option linter.unusedVariables false
namespace Go.Eng
open Go Go.RowKit

theorem run_eq_00 {P : Program} {w : World} {t d : TypeId} (hu : P.underlying t = some (.pointer d)) : (Op.equal t (.pointer none) (.pointer none)).run P w = .ok true w := by
  have e : Op.maxDepth = 9999 + 1 := rfl
  unfold Op.equal
  rw [e, Op.equalIn]
  simp only [Sem.run_bind, run_underlying hu, Result.andThen_ok]
  rfl
theorem run_eq_p0 {P : Program} {w : World} {t d : TypeId} {a : Addr} (hu : P.underlying t = some (.pointer d)) : (Op.equal t (.pointer (some a)) (.pointer none)).run P w = .ok false w := by
  have e : Op.maxDepth = 9999 + 1 := rfl
  unfold Op.equal
  rw [e, Op.equalIn]
  simp only [Sem.run_bind, run_underlying hu, Result.andThen_ok]
  rfl
theorem run_eq_pp {P : Program} {w : World} {t d : TypeId} {a : Addr} (hu : P.underlying t = some (.pointer d)) (hz : 0 < szT P d) : (Op.equal t (.pointer (some a)) (.pointer (some a))).run P w = .ok true w := by
  have e : Op.maxDepth = 9999 + 1 := rfl
  unfold Op.equal
  rw [e, Op.equalIn]
  simp only [Sem.run_bind, run_underlying hu, Result.andThen_ok, run_sizeOf' hz, Sem.run_ite, ne_eq, Nat.ne_of_gt hz, not_false_eq_true, if_true, run_sameAddr_same]

section
variable {P : Program} {X : Nat → Prop} {β : Bt} {w : World}

theorem RS.asI {a : AV} {x : Value} {k : IntKind} {i : Int} (h : RS X β w a x) (he : Eng.asI a = some (k, i)) : x = .int k i := by
  cases h with
  | v x => cases x <;> simp_all [Eng.asI]
  | _ => simp [Eng.asI] at he

theorem addr_add (b o n : Nat) : Addr.add ⟨b, o, none⟩ n = ⟨b, o + n, none⟩ := by
  unfold Addr.add; split
  · subst_vars; rfl
  · rfl

theorem fill_sound {place : Nat → Option (Nat × Nat)} : ∀ (parts : List (Nat × AV)) (vs : List (Nat × Value)) (cells c : List AV) (cs : Array Value),
    parts.length = vs.length → (∀ (k : Nat) (p : Nat × AV) (q : Nat × Value), parts[k]? = some p → vs[k]? = some q → p.1 = q.1 ∧ RS X β w p.2 q.2) →
    cells.length = cs.size → (∀ (k : Nat) (s : AV) (u : Value), cells[k]? = some s → cs[k]? = some u → RS X β w s u) →
    fillA place cells parts = some c → ∃ r, Instr.fill place cs vs = some r ∧ c.length = r.size ∧ (∀ (k : Nat) (s : AV) (u : Value), c[k]? = some s → r[k]? = some u → RS X β w s u)
  | [], [], cells, c, cs, _, _, hl, hR, hf => by simp only [fillA, Option.some.injEq] at hf; subst hf; exact ⟨cs, rfl, hl, hR⟩
  | [], _ :: _, _, _, _, h, _, _, _, _ => by simp at h
  | _ :: _, [], _, _, _, h, _, _, _, _ => by simp at h
  | (i, a) :: r, (i', v) :: vs, cells, c, cs, h, hp, hl, hR, hf => by
    obtain ⟨hi, ha⟩ := hp 0 (i, a) (i', v) rfl rfl
    simp only at hi ha; subst hi
    unfold fillA at hf
    split at hf
    case h_2 => cases hf
    rename_i o z l hpl hcl
    split at hf
    case isFalse => cases hf
    rename_i hb
    obtain ⟨h1, h2⟩ := ha.cells hcl
    have hsz : v.cells.size = z := by omega
    -- what the cells are behind the part
    have hset : ∀ (vs' : List Value) (o' : Nat) (cs' : Array Value), o' + vs'.length ≤ cs'.size →
        (vs'.zipIdx o').foldl (fun (cs : Array Value) (p : Value × Nat) => cs.setIfInBounds p.2 p.1) cs' = (cs'.toList.take o' ++ vs' ++ cs'.toList.drop (o' + vs'.length)).toArray := by
      intro vs'
      induction vs' with
      | nil => intro o' cs' ho; simp
      | cons x xs ih =>
        intro o' cs' ho
        simp only [List.zipIdx_cons, List.foldl_cons]
        rw [ih (o' + 1) _ (by simp at ho ⊢; omega)]
        simp only [Array.toList_setIfInBounds]
        congr 1
        have := list_seg_step cs'.toList o' x xs (by simp at ho ⊢; omega)
        simpa [Nat.add_assoc, Nat.add_comm, Nat.add_left_comm] using this
    have hfold : (v.cells.zipIdx.foldl (fun (cs : Array Value) (p : Value × Nat) => cs.setIfInBounds (o + p.2) p.1) cs) = (cs.toList.take o ++ v.cells.toList ++ cs.toList.drop (o + v.cells.size)).toArray := by
      have e := hset v.cells.toList o cs (by simp; omega)
      rw [← Array.foldl_toList, Array.toList_zipIdx]
      have : v.cells.toList.zipIdx o = (v.cells.toList.zipIdx 0).map fun p => (p.1, o + p.2) := by
        apply List.ext_getElem?
        intro k
        simp only [List.getElem?_zipIdx, List.getElem?_map]
        cases v.cells.toList[k]? <;> simp
      rw [this, List.foldl_map] at e
      simpa using e
    have hn : (cells.take o ++ l ++ cells.drop (o + l.length)).length = (cs.toList.take o ++ v.cells.toList ++ cs.toList.drop (o + v.cells.size)).toArray.size := by simp [h1, hl]
    obtain ⟨r', hr1, hr2, hr3⟩ := fill_sound r vs _ c (cs.toList.take o ++ v.cells.toList ++ cs.toList.drop (o + v.cells.size)).toArray (by simpa using h)
      (fun k p q hp' hq' => hp (k + 1) p q (by simpa using hp') (by simpa using hq')) hn (fun k s u hs hu => by
        have hlt : o ≤ cells.length := by omega
        have hlc : o ≤ cs.toList.length := by simp; omega
        simp only [List.getElem?_toArray, List.append_assoc] at hs hu
        by_cases k1 : k < o
        · rw [List.getElem?_append_left (by simp; omega), List.getElem?_take_of_lt k1] at hs
          rw [List.getElem?_append_left (by simp; omega), List.getElem?_take_of_lt k1] at hu
          exact hR k s u hs (by simpa using hu)
        · rw [List.getElem?_append_right (by simp; omega)] at hs
          rw [List.getElem?_append_right (by simp; omega)] at hu
          simp only [List.length_take, Nat.min_eq_left hlt, Nat.min_eq_left hlc] at hs hu
          by_cases k2 : k - o < l.length
          · rw [List.getElem?_append_left k2] at hs
            rw [List.getElem?_append_left (by simp; omega)] at hu
            exact h2 _ s u hs (by simpa using hu)
          · rw [List.getElem?_append_right (by omega)] at hs
            rw [List.getElem?_append_right (by simp; omega)] at hu
            simp only [List.getElem?_drop, Array.length_toList, ← h1] at hs hu
            have : o + l.length + (k - o - l.length) = k := by omega
            rw [this] at hs hu
            exact hR k s u hs (by simpa using hu)) hf
    refine ⟨r', ?_, hr2, hr3⟩
    unfold Instr.fill
    simp only [hpl]
    have : ¬ (v.cells.size ≠ z || decide (o + v.cells.size > cs.size)) = true := by simp; omega
    rw [if_neg this]
    rw [← hr1]
    congr 1
theorem fillA_more {place place' : Nat → Option (Nat × Nat)} (h : ∀ i x, place i = some x → place' i = some x) : ∀ (parts : List (Nat × AV)) (cells c : List AV), fillA place cells parts = some c → fillA place' cells parts = some c
  | [], cells, c, hf => by simpa [fillA] using hf
  | (i, a) :: r, cells, c, hf => by
    unfold fillA at hf ⊢
    cases hp : place i with
    | none => simp [hp] at hf
    | some x =>
      obtain ⟨o, z⟩ := x
      rw [hp] at hf
      rw [h i _ hp]
      cases hc : cellsA a with
      | none => simp [hc] at hf
      | some l =>
        simp only [hc] at hf ⊢
        split at hf
        · rename_i hb; rw [if_pos hb]; exact fillA_more h r _ c hf
        · cases hf

theorem loadK_own {n : Nat} {k : Blk} {i j : Nat} {t : TypeId} {ch : List AV} {K : AV → Prop} {b o e : Nat} (hb : β n = some (b, o, e)) (ho : OwnR X β w n k) (hi : k.l[i]? = some ch) (h : loadK P t ch j K) :
    ∃ av x, K av ∧ (loadVar t ⟨b, o + i * e + j, none⟩).run P w = .ok x w ∧ RS X β w av x := by
  rcases ho with ⟨b', o', c, t', h1, h2, h3, h4, h5⟩ | ⟨h1, h2⟩
  · rw [h1] at hb; cases hb
    have hch : ch.length = k.e := h3 ch (List.mem_of_getElem? hi)
    have hil : i < k.l.length := (List.getElem?_eq_some_iff.1 hi).1
    have hle : (i + 1) * k.e ≤ k.l.length * k.e := Nat.mul_le_mul_right _ hil
    rw [Nat.succ_mul] at hle
    refine run_loadVar' (u := fun q => c.getD (o + i * k.e + q) undef) h (fun q hq => ?_) (fun q s hs => ?_)
    · have hlt : o + i * k.e + q < c.size := by omega
      simp [World.cell?, h2, hlt]
    · obtain ⟨u, hu, hr⟩ := h5 i q ch s hi hs
      have : c.getD (o + i * k.e + q) undef = u := by
        have hlt := (Array.getElem?_eq_some_iff.1 hu).1
        simpa [Array.getD, hlt] using (Array.getElem?_eq_some_iff.1 hu).2
      rw [this]; exact hr
  · rw [h1] at hi; simp at hi

theorem own_e {n : Nat} {k : Blk} {b o e : Nat} (hb : β n = some (b, o, e)) (ho : OwnR X β w n k) : e = k.e := by
  rcases ho with ⟨b', o', c, t', h1, h2, h3, h4, h5⟩ | ⟨h1, h2⟩
  · rw [h1] at hb; cases hb; rfl
  · rw [h2] at hb; cases hb

theorem orel (x : Option Operand) {ρ : Operand → AV} {ρc : Operand → Value} (hρ : ∀ x, RS X β w (ρ x) (ρc x)) :
    (x.map ρ = none ∧ x.map ρc = none) ∨ ∃ a v, x.map ρ = some a ∧ x.map ρc = some v ∧ RS X β w a v := by
  cases x with
  | none => exact .inl ⟨rfl, rfl⟩
  | some x => exact .inr ⟨_, _, rfl, rfl, hρ x⟩

theorem run_bound {a : AV} {v : Value} {k : IntKind} {i : Int} {l y : Nat} {code : BoundsCode} (ha : RS X β w a v) (he : Eng.asI a = some (k, i)) (hi : i = (l : Int)) (hy : l ≤ y) :
    (Instr.sliceBound v y code).run P w = .ok l w := by
  rw [ha.asI he, hi]
  have : (0 : Int) ≤ (l : Int) ∧ (l : Int) ≤ (y : Int) := by omega
  simp [Instr.sliceBound, asIntOf, this]

theorem sliceK_sound {H : Nat → Option Blk} (hH : ∀ n k, H n = some k → OwnR X β w n k) {t : TypeId} {x : AV} {v : Value} {lo hi mx : Option AV} {lo' hi' mx' : Option Value} {K : AV → Prop} (hp : ptT P t = none) (har : arT P t = none) (hx : RS X β w x v)
    (hlo : (lo = none ∧ lo' = none) ∨ ∃ a v, lo = some a ∧ lo' = some v ∧ RS X β w a v) (hhi : (hi = none ∧ hi' = none) ∨ ∃ a v, hi = some a ∧ hi' = some v ∧ RS X β w a v)
    (hmx : (mx = none ∧ mx' = none) ∨ ∃ a v, mx = some a ∧ mx' = some v ∧ RS X β w a v) (h : sliceK P H t x lo hi mx K) :
    ∃ av u, K av ∧ (Instr.sliceAt t v lo' hi' mx').run P w = .ok u w ∧ RS X β w av u := by
  unfold sliceK at h
  split at h
  case h_1 => exact h.elim
  rename_i n hn
  obtain ⟨l, h', h1, h2, h3, h4, h5, h⟩ := h
  -- the bounds
  have hbnd : ∀ (isS : Bool) (cap : Nat), n ≤ cap → (Instr.sliceBounds isS n cap lo' hi' mx').run P w = .ok (l, h', if mx' = none then cap else h') w := by
    intro isS cap hcap
    rcases hmx with ⟨rfl, rfl⟩ | ⟨a3, v3, rfl, rfl, r3⟩
    · rcases hhi with ⟨rfl, rfl⟩ | ⟨a2, v2, rfl, rfl, r2⟩
      · simp only at h2
        obtain ⟨rfl, _⟩ := h2
        rcases hlo with ⟨rfl, rfl⟩ | ⟨a1, v1, rfl, rfl, r1⟩
        · simp only at h1; subst h1; simp [Instr.sliceBounds]
        · simp only at h1; obtain ⟨k1, i1, e1, e2⟩ := h1
          simp [Instr.sliceBounds, run_bound r1 e1 e2 h4]
      · simp only at h2; obtain ⟨k2, i2, e3, e4⟩ := h2
        rcases hlo with ⟨rfl, rfl⟩ | ⟨a1, v1, rfl, rfl, r1⟩
        · simp only at h1; subst h1; simp [Instr.sliceBounds, run_bound r2 e3 e4 (Nat.le_trans h5 hcap)]
        · simp only at h1; obtain ⟨k1, i1, e1, e2⟩ := h1
          simp [Instr.sliceBounds, run_bound r2 e3 e4 (Nat.le_trans h5 hcap), run_bound r1 e1 e2 h4]
    · rcases hhi with ⟨rfl, rfl⟩ | ⟨a2, v2, rfl, rfl, r2⟩
      · simp at h2
      · simp only at h2 h3; obtain ⟨k2, i2, e3, e4⟩ := h2; obtain ⟨k3, i3, e5, e6⟩ := h3
        rcases hlo with ⟨rfl, rfl⟩ | ⟨a1, v1, rfl, rfl, r1⟩
        · simp only at h1; subst h1; simp [Instr.sliceBounds, run_bound r3 e5 e6 (Nat.le_trans h5 hcap), run_bound r2 e3 e4 (Nat.le_refl _)]
        · simp only at h1; obtain ⟨k1, i1, e1, e2⟩ := h1
          simp [Instr.sliceBounds, run_bound r3 e5 e6 (Nat.le_trans h5 hcap), run_bound r2 e3 e4 (Nat.le_refl _), run_bound r1 e1 e2 h4]
  have hsl : ∀ (d : TypeId) (b q len cap : Nat), slT P t = some d → 0 < szT P d → len = n → n ≤ cap →
      ∃ m q', (Instr.sliceAt t (.slice (some ⟨b, q, none⟩) len cap) lo' hi' mx').run P w = .ok (.slice (some ⟨b, q', none⟩) (h' - l) (m - l)) w ∧ m ≤ cap ∧ h' ≤ m ∧ (q' = q + l * szT P d ∨ (m = l ∧ q' = q)) := by
    intro d b q len cap hd hz hl hc
    have hu := und_of_slT hd
    subst hl
    have hbc := hbnd true cap hc
    have hM1 : (if mx' = none then cap else h') ≤ cap := by split <;> omega
    have hM2 : h' ≤ (if mx' = none then cap else h') := by split <;> omega
    generalize (if mx' = none then cap else h') = M at hbc hM1 hM2
    refine ⟨M, if M = l then q else q + l * szT P d, ?_, hM1, hM2, ?_⟩
    · simp only [Instr.sliceAt, Sem.run_bind, run_underlying hu, Result.andThen_ok, Instr.slice, hbc, run_sizeOf' hz, Sem.run_pure, Option.map_some, addr_add]
      by_cases hMl : M = l <;> simp [hMl]
    · split
      · rename_i e; exact .inr ⟨e, rfl⟩
      · exact .inl rfl
  split at h
  · rename_i s
    obtain ⟨h6, hu, hK⟩ := h
    simp only [lenA, Option.some.injEq] at hn
    cases hx
    refine ⟨_, _, hK, ?_, .v _⟩
    rcases hmx with ⟨rfl, rfl⟩ | ⟨a3, v3, rfl, rfl, r3⟩
    · have hb := hbnd false s.size (by omega)
      rw [← hn] at hb
      simp [Instr.sliceAt, Instr.slice, run_underlying hu, hb]
    · cases h6
  · rename_i e c
    obtain ⟨⟨d, hd, hz, hpos⟩, hK⟩ := h
    subst hz
    simp only [lenA, Option.some.injEq] at hn
    cases hx with
    | ro0 =>
      rename_i cap a
      simp at hn; subst hn
      obtain rfl : l = 0 := by omega
      obtain rfl : h' = 0 := by omega
      have hu := und_of_slT hd
      refine ⟨_, .slice (if (if mx' = none then cap else 0) = 0 then a else a.map (·.add (0 * szT P d))) 0 ((if mx' = none then cap else 0) - 0), hK, ?_, by simpa using RS.ro0⟩
      simp only [Instr.sliceAt, Sem.run_bind, run_underlying hu, Result.andThen_ok, Instr.slice, hbnd true cap (Nat.zero_le _), run_sizeOf' hpos, Sem.run_pure]
    | ro u hX hb hl hdd hu hR =>
      rename_i b o cap
      obtain ⟨m, q', hr, hm1, hm2, hq⟩ := hsl d b o _ cap hd hpos hn (by omega)
      refine ⟨_, _, hK, hr, ?_⟩
      have hlen : ((c.take h').drop l).length = h' - l := by simp; omega
      rcases hq with rfl | ⟨rfl, rfl⟩
      · rw [← hlen]
        refine .ro (fun k => u (l * szT P d + k)) hX hb (by omega) (fun ch hch => hdd ch (List.mem_of_mem_take (List.mem_of_mem_drop hch))) (fun k hk => ?_) (fun i j ch s hi hj => ?_)
        · rw [Nat.add_assoc]
          refine hu _ ?_
          rw [hlen] at hk
          have : (h' - l) * szT P d + l * szT P d ≤ c.length * szT P d := by rw [← Nat.add_mul]; exact Nat.mul_le_mul_right _ (by omega)
          omega
        · rw [List.getElem?_drop] at hi
          rw [List.getElem?_take] at hi
          split at hi
          · have := hR _ _ _ _ hi hj
            rwa [Nat.add_mul, Nat.add_assoc] at this
          · cases hi
      · have h0 : (c.take h').drop m = [] := List.eq_nil_of_length_eq_zero (by rw [hlen]; omega)
        have h1 : h' - m = 0 := by omega
        rw [h0, h1]
        exact .ro0
  · rename_i m i len
    obtain ⟨d, hd, hpos, h⟩ := h
    split at h
    case h_2 => exact h.elim
    rename_i kb hkb
    obtain ⟨hke, hK⟩ := h
    simp only [lenA, Option.some.injEq] at hn
    subst hn
    cases hx with
    | slz =>
      rename_i a
      obtain rfl : l = 0 := by omega
      obtain rfl : h' = 0 := by omega
      have hu := und_of_slT hd
      have hM : (if mx' = none then 0 else 0) = 0 := by split <;> rfl
      refine ⟨_, .slice a 0 0, hK, ?_, .slz⟩
      have hbc := hbnd true 0 (Nat.le_refl _)
      rw [hM] at hbc
      simp [Instr.sliceAt, Instr.slice, run_underlying hu, hbc, run_sizeOf' hpos]
    | sl hb hl hs hc =>
      rename_i cap b o e mm t'
      obtain ⟨M, q', hr, hm1, hm2, hq⟩ := hsl d b (o + i * e) _ cap hd hpos rfl hl
      refine ⟨_, _, hK, hr, ?_⟩
      rcases hq with rfl | ⟨rfl, rfl⟩
      · have he : e = kb.e := own_e hb (hH _ _ hkb)
        have r := RS.sl (X := X) (w := w) (i := i + l) (len := h' - l) (cap := M - l) hb (by omega) hs (by
          have : (i + l + (M - l)) * e ≤ (i + cap) * e := Nat.mul_le_mul_right _ (by omega)
          omega)
        rw [he, hke, Nat.add_mul, ← Nat.add_assoc] at r
        rw [he, hke]; exact r
      · have h1 : h' - M = 0 := by omega
        rw [h1, Nat.sub_self]
        exact .slz
  · obtain ⟨⟨d, hd, hpos⟩, hK⟩ := h
    simp only [lenA, Option.some.injEq] at hn
    subst hn
    cases hx
    obtain rfl : l = 0 := by omega
    obtain rfl : h' = 0 := by omega
    have hu := und_of_slT hd
    refine ⟨_, _, hK, ?_, .v _⟩
    simp [Instr.sliceAt, Instr.slice, run_underlying hu, hbnd true 0 (Nat.le_refl _), run_sizeOf' hpos]
  · exact h.elim

theorem run_equal_bool {P : Program} {w : World} {t : TypeId} {a b : Bool} (hu : P.underlying t = some .bool) : (Op.equal t (.bool a) (.bool b)).run P w = .ok (a == b) w := by
  have key : ∀ d, (Op.equalIn (d + 1) t (.bool a) (.bool b)).run P w = .ok (a == b) w := by
    intro d
    rw [Op.equalIn]
    simp [run_underlying hu]
  exact key 9999
theorem RS.vv {s u : Value} (h : RS X β w (.v s) u) : u = s := by cases h; rfl

theorem args_vals {ρ : Operand → AV} {ρc : Operand → Value} (hρ : ∀ x, RS X β w (ρ x) (ρc x)) : ∀ (xs : List Operand) (vs : List Value), xs.map ρ = vs.map .v → xs.map ρc = vs
  | [], [], _ => rfl
  | [], _ :: _, h => by simp at h
  | _ :: _, [], h => by simp at h
  | x :: xs, v :: vs, h => by
    simp only [List.map_cons, List.cons.injEq] at h ⊢
    exact ⟨RS.vv (w := w) (X := X) (β := β) (h.1 ▸ hρ x), args_vals hρ xs vs h.2⟩

theorem max_sound {ρ : Operand → AV} {ρc : Operand → Value} {xs : Array Operand} {ts : Array TypeId} {ty : TypeId} {K : AV → Prop} (hρ : ∀ x, RS X β w (ρ x) (ρc x))
    (h : (match xs.toList.map ρ with
     | [.v (.int k a), .v (.int k1 b)] => K (.v (.int k (max a b)))
     | [.v (.int k a), .v (.int k1 b), .v (.int k2 c)] => K (.v (.int k (max (max a b) c)))
     | [.v (.int k a), .v (.int k1 b), .v (.int k2 c), .v (.int k3 d)] => K (.v (.int k (max (max (max a b) c) d)))
     | _ => False)) : ∃ r, K (.v r) ∧ (Builtin.max_ ts ty (xs.map ρc)).run P w = .ok r w := by
  have mx : ∀ a b : Int, (if b > a then b else a) = max a b := fun a b => by omega
  split at h
  · rename_i k a k1 b hc
    have e := args_vals (w := w) hρ xs.toList [.int k a, .int k1 b] hc
    exact ⟨_, h, by simp [Builtin.max_, Array.toList_map, e, Builtin.max2, mx]⟩
  · rename_i k a k1 b k2 c hc
    have e := args_vals (w := w) hρ xs.toList [.int k a, .int k1 b, .int k2 c] hc
    exact ⟨_, h, by simp [Builtin.max_, Array.toList_map, e, Builtin.max2, mx]⟩
  · rename_i k a k1 b k2 c k3 d hc
    have e := args_vals (w := w) hρ xs.toList [.int k a, .int k1 b, .int k2 c, .int k3 d] hc
    exact ⟨_, h, by simp [Builtin.max_, Array.toList_map, e, Builtin.max2, mx]⟩
  · exact h.elim

theorem min_sound {ρ : Operand → AV} {ρc : Operand → Value} {xs : Array Operand} {ts : Array TypeId} {ty : TypeId} {K : AV → Prop} (hρ : ∀ x, RS X β w (ρ x) (ρc x))
    (h : (match xs.toList.map ρ with
     | [.v (.int k a), .v (.int k1 b)] => K (.v (.int k (min a b)))
     | [.v (.int k a), .v (.int k1 b), .v (.int k2 c)] => K (.v (.int k (min (min a b) c)))
     | _ => False)) : ∃ r, K (.v r) ∧ (Builtin.min_ ts ty (xs.map ρc)).run P w = .ok r w := by
  have mn : ∀ a b : Int, (if b < a then b else a) = min a b := fun a b => by omega
  split at h
  · rename_i k a k1 b hc
    have e := args_vals (w := w) hρ xs.toList [.int k a, .int k1 b] hc
    exact ⟨_, h, by simp [Builtin.min_, Array.toList_map, e, Builtin.min2, mn]⟩
  · rename_i k a k1 b k2 c hc
    have e := args_vals (w := w) hρ xs.toList [.int k a, .int k1 b, .int k2 c] hc
    exact ⟨_, h, by simp [Builtin.min_, Array.toList_map, e, Builtin.min2, mn]⟩
  · exact h.elim

theorem qev_sound {ρ : Operand → AV} {ρc : Operand → Value} {H : Nat → Option Blk} {o : Oper} {K : AV → Prop} (hρ : ∀ x, RS X β w (ρ x) (ρc x))
    (hH : ∀ n k, H n = some k → OwnR X β w n k) (h : qev P ρ H o.op K) :
    ∃ av u, K av ∧ (execOp ρc o).run P w = .ok (.value u) w ∧ RS X β w av u := by
  obtain ⟨dst, op, type, pos, after, guard⟩ := o
  simp only at h
  unfold qev at h
  cases op
  case move x => exact ⟨_, _, h, rfl, hρ x⟩
  case assign x => exact ⟨_, _, h, rfl, hρ x⟩
  case pick c a b =>
    simp only at h
    have hc := hρ c
    split at h
    · rename_i z hz
      rw [hz] at hc
      generalize hv : ρc c = vc at hc
      cases hc
      cases z
      · exact ⟨_, _, h, by simp [execOp, hv, asBool], hρ b⟩
      · exact ⟨_, _, h, by simp [execOp, hv, asBool], hρ a⟩
    · exact h.elim
  case load t a =>
    simp only at h
    have ha := hρ a
    split at h
    · rename_i c j hc
      rw [hc] at ha
      generalize hv : ρc a = va at ha
      cases ha with
      | rp u hX hb hu hR =>
        obtain ⟨av, x, h1, h2, h3⟩ := run_loadVar' h hu hR
        exact ⟨av, x, h1, by simp [execOp, Instr.loadAt, hv, Instr.sureAddr, h2], h3⟩
    · rename_i n i j hc
      rw [hc] at ha
      generalize hv : ρc a = va at ha
      cases ha with
      | ptr hb =>
        split at h
        · rename_i k hk
          obtain ⟨ch, hi, hl⟩ := h
          obtain ⟨av, x, h1, h2, h3⟩ := loadK_own hb (hH _ _ hk) hi hl
          exact ⟨av, x, h1, by simp [execOp, Instr.loadAt, hv, Instr.sureAddr, h2], h3⟩
        · exact h.elim
    · exact h.elim
  case fieldAddr s x f =>
    simp only at h
    split at h
    case h_2 => exact h.elim
    rename_i o ft hf
    obtain ⟨fs, fd, hu, hfd, rfl, rfl⟩ := und_of_fldT hf
    obtain ⟨hz, h⟩ := h
    have hx := hρ x
    have key : ∀ b q : Nat, (Instr.fieldAt s (.pointer (some ⟨b, q, none⟩)) f).run P w = .ok (.pointer (some ⟨b, q + fd.offset, none⟩)) w := by
      intro b q
      have hz' : ¬ szT P fd.type = 0 := by omega
      simp [Instr.fieldAt, run_underlying hu, hfd, Instr.sureAddr, fieldPlace, run_sizeOf' hz, hz', addr_add]
    split at h
    · rename_i n i j hc
      rw [hc] at hx
      generalize hv : ρc x = va at hx
      cases hx with
      | ptr hb =>
        have r := RS.ptr (X := X) (w := w) (i := i) (j := j + fd.offset) hb
        rw [← Nat.add_assoc] at r
        exact ⟨_, _, h, by simp [execOp, hv, key], r⟩
    · rename_i c j hc
      rw [hc] at hx
      generalize hv : ρc x = va at hx
      cases hx with
      | rp u hX hb hu hR =>
        have r := RS.rp (j := j + fd.offset) u hX hb hu hR
        rw [← Nat.add_assoc] at r
        exact ⟨_, _, h, by simp [execOp, hv, key], r⟩
    · exact h.elim
  case indexAddr t x ix =>
    simp only at h
    split at h
    case h_2 => exact h.elim
    rename_i kk i hi
    have hix := (hρ ix).asI hi
    have hx := hρ x
    split at h
    · rename_i e hs
      have hu := und_of_slT hs
      split at h
      · rename_i z l hc
        rw [hc] at hx
        obtain ⟨⟨rfl, hz⟩, h0, ch, hch, hK⟩ := h
        have hlt : i.toNat < l.length := (List.getElem?_eq_some_iff.1 hch).1
        generalize hv : ρc x = va at hx
        cases hx with
        | ro0 => simp at hlt
        | ro u hX hb hl hd hu' hR =>
          rename_i b o cap
          refine ⟨_, .pointer (some ⟨b, o + i.toNat * szT P e, none⟩), hK, ?_, ?_⟩
          · have hb : 0 ≤ i ∧ i < (l.length : Int) := ⟨h0, by omega⟩
            simp only [execOp, hv, hix, Instr.indexAt, run_underlying hu, asIntOf, Sem.run_bind, Sem.run_pure, Result.andThen_ok, Sem.run_ite, if_pos hb, run_sizeOf' hz, addr_add]
          · have hcl : ch.length = szT P e := hd ch (List.mem_of_getElem? hch)
            have hle : (i.toNat + 1) * szT P e ≤ l.length * szT P e := Nat.mul_le_mul_right _ hlt
            rw [Nat.succ_mul] at hle
            refine .rp (o := o + i.toNat * szT P e) (j := 0) (fun q => u (i.toNat * szT P e + q)) hX hb (fun q hq => ?_) (fun q s hs => hR _ _ _ _ hch hs)
            rw [Nat.add_assoc]; exact hu' _ (by omega)
      · rename_i n i0 len hc
        rw [hc] at hx
        obtain ⟨⟨h0, hlt⟩, h⟩ := h
        split at h
        · rename_i k hk
          obtain ⟨⟨hke, hpos⟩, hK⟩ := h
          generalize hv : ρc x = va at hx
          cases hx with
          | slz => omega
          | sl hb hl hsh hcap =>
            rename_i cap b o e' m t'
            have he : e' = k.e := own_e hb (hH _ _ hk)
            subst he
            refine ⟨_, .pointer (some ⟨b, o + (i0 + i.toNat) * k.e + 0, none⟩), hK, ?_, .ptr hb⟩
            have hb : 0 ≤ i ∧ i < (len : Int) := ⟨h0, hlt⟩
            have hz : 0 < szT P e := by omega
            simp only [execOp, hv, hix, Instr.indexAt, run_underlying hu, asIntOf, Sem.run_bind, Sem.run_pure, Result.andThen_ok, Sem.run_ite, if_pos hb, run_sizeOf' hz, addr_add]
            rw [← hke, Nat.add_mul, ← Nat.add_assoc, Nat.add_zero]
        · exact h.elim
      · exact h.elim
    · rename_i m e _ ha
      have hu := und_of_arT ha
      obtain ⟨⟨h0, hm, hz⟩, h⟩ := h
      have hb : 0 ≤ i ∧ i < (m : Int) := ⟨h0, hm⟩
      have key : ∀ b q : Nat, (Instr.indexAt t (.pointer (some ⟨b, q, none⟩)) (.int kk i)).run P w = .ok (.pointer (some ⟨b, q + i.toNat * szT P e, none⟩)) w := by
        intro b q
        simp only [Instr.indexAt, run_underlying hu, asIntOf, Instr.sureAddr, Sem.run_bind, Sem.run_pure, Result.andThen_ok, Sem.run_ite, if_pos hb, run_sizeOf' hz, addr_add]
      split at h
      · rename_i n i0 j hc
        rw [hc] at hx
        generalize hv : ρc x = va at hx
        cases hx with
        | ptr hb =>
          have r := RS.ptr (X := X) (w := w) (i := i0) (j := j + i.toNat * szT P e) hb
          rw [← Nat.add_assoc] at r
          exact ⟨_, _, h, by simp [execOp, hv, hix, key], r⟩
      · rename_i c j hc
        rw [hc] at hx
        generalize hv : ρc x = va at hx
        cases hx with
        | rp u hX hb hu hR =>
          have r := RS.rp (j := j + i.toNat * szT P e) u hX hb hu hR
          rw [← Nat.add_assoc] at r
          exact ⟨_, _, h, by simp [execOp, hv, hix, key], r⟩
      · exact h.elim
    · exact h.elim
  case field t x f =>
    simp only at h
    have hx := hρ x
    split at h
    · rename_i o ft l hf hc
      obtain ⟨fs, fd, hu, hfd, rfl, rfl⟩ := und_of_fldT hf
      rw [hc] at hx
      generalize hv : ρc x = va at hx
      cases hx with
      | g hl hR =>
        obtain ⟨av, y, h1, h2, h3⟩ := run_part' (w := w) h hl hR
        exact ⟨av, y, h1, by simp [execOp, hv, Instr.field, run_underlying hu, hfd, asAgg, h2], h3⟩
    · exact h.elim
  case index t x ix =>
    simp only at h
    split at h
    case h_2 => exact h.elim
    rename_i kk i hi
    have hix := (hρ ix).asI hi
    have hx := hρ x
    split at h
    · rename_i l hc
      rw [hc] at hx
      split at h
      case h_2 => exact h.elim
      rename_i m e ha
      have hu := und_of_arT ha
      obtain ⟨⟨h0, hm, hz⟩, h⟩ := h
      have hb : 0 ≤ i ∧ i < (m : Int) := ⟨h0, hm⟩
      generalize hv : ρc x = va at hx
      cases hx with
      | g hl hR =>
        obtain ⟨av, y, h1, h2, h3⟩ := run_part' (w := w) h hl hR
        exact ⟨av, y, h1, by simp only [execOp, hv, hix, Instr.index, run_underlying hu, asIntOf, Sem.run_bind, Sem.run_pure, Result.andThen_ok, Sem.run_ite, if_pos hb, run_sizeOf' hz, h2], h3⟩
    · rename_i s hc
      rw [hc] at hx
      obtain ⟨hu, h0, b, hb, hK⟩ := h
      generalize hv : ρc x = va at hx
      cases hx
      exact ⟨_, _, hK, by simp [execOp, hv, hix, Instr.index, run_underlying hu, asIntOf, h0, hb], .v _⟩
    · exact h.elim
  case extract x ix =>
    simp only at h
    have hx := hρ x
    split at h
    · rename_i l hc
      rw [hc] at hx
      obtain ⟨a, ha, hK⟩ := h
      generalize hv : ρc x = va at hx
      cases hx with
      | t hl hR =>
        rename_i cs
        have hlt : ix < cs.size := by have := (List.getElem?_eq_some_iff.1 ha).1; omega
        exact ⟨a, cs[ix], hK, by simp [execOp, hv, Instr.extract, hlt], hR ix a _ ha (by simp [hlt])⟩
    · exact h.elim
  case binOp o t x y yt =>
    simp only at h
    have hx := hρ x; have hy := hρ y
    unfold bV at h
    split at h
    · rename_i a b ha hb
      rw [ha] at hx; rw [hb] at hy
      generalize hv : ρc x = va at hx
      generalize hv' : ρc y = vb at hy
      cases hx; cases hy
      obtain ⟨hu, h⟩ := h
      unfold boolV at h
      split at h
      · exact ⟨_, _, h, by simp [execOp, hv, hv', eqGuard, binOp, run_equal_bool hu], .v _⟩
      · exact ⟨_, _, h, by simp [execOp, hv, hv', eqGuard, binOp, run_equal_bool hu], .v _⟩
      · exact h.elim
    · rename_i ha hb
      rw [ha] at hx; rw [hb] at hy
      generalize hv : ρc x = va at hx
      generalize hv' : ρc y = vb at hy
      cases hx; cases hy
      obtain ⟨⟨d, hu, hz⟩, h⟩ := h
      split at h
      · exact ⟨_, _, h, by simp [execOp, hv, hv', eqGuard, binOp, run_eq_00 hu], .v _⟩
      · exact ⟨_, _, h, by simp [execOp, hv, hv', eqGuard, binOp, run_eq_00 hu], .v _⟩
      · exact h.elim
    · rename_i a b _ _ ha hb
      rw [ha] at hx; rw [hb] at hy
      generalize hv : ρc x = va at hx
      generalize hv' : ρc y = vb at hy
      cases hx; cases hy
      obtain ⟨r, hK, hr⟩ := binV_sound (P := P) (w := w) (t := t) (xo := x) (yo := y) h
      refine ⟨_, r, hK, ?_, .v _⟩
      simp only [Sem.run_bind] at hr
      simp only [execOp, hv, hv', Sem.run_bind, hr, Result.andThen_ok, Sem.run_pure]
    · rename_i l l' ha hb
      rw [ha] at hx; rw [hb] at hy
      generalize hv : ρc x = va at hx
      generalize hv' : ρc y = vb at hy
      unfold aggV at h
      split at h
      case h_2 => exact h.elim
      rename_i xs ys h1 h2
      obtain ⟨⟨hlen, hE⟩, hK⟩ := h
      cases hx with
      | g hl hR =>
        rename_i cs
        cases hy with
        | g hl' hR' =>
          rename_i cs'
          have e1 := intsA_rs (vs := cs.toList) h1 (by simpa using hl) (fun k s u hs hu => hR k s u hs (by simpa using hu))
          have e2 := intsA_rs (vs := cs'.toList) h2 (by simpa using hl') (fun k s u hs hu => hR' k s u hs (by simpa using hu))
          have e1' : cs = (xs.map fun x => Value.int .i64 x).toArray := by rw [← e1]
          have e2' : cs' = (ys.map fun x => Value.int .i64 x).toArray := by rw [← e2]
          subst e1'; subst e2'
          have hr := hE xs ys rfl hlen.symm w x y
          split at hK
          · refine ⟨_, _, hK, ?_, .v _⟩
            have hr := hr.1
            simp only [Sem.run_bind] at hr
            simp only [execOp, hv, hv', Sem.run_bind, hr, Result.andThen_ok, Sem.run_pure]
          · refine ⟨_, _, hK, ?_, .v _⟩
            have hr := hr.2
            simp only [Sem.run_bind] at hr
            simp only [execOp, hv, hv', Sem.run_bind, hr, Result.andThen_ok, Sem.run_pure]
          · exact hK.elim
    · rename_i n1 i1 j1 n2 i2 j2 ha hb
      rw [ha] at hx; rw [hb] at hy
      generalize hv : ρc x = va at hx
      generalize hv' : ρc y = vb at hy
      obtain ⟨⟨rfl, rfl, rfl⟩, ⟨d, hu, hz⟩, h⟩ := h
      cases hx with
      | ptr h1 =>
        cases hy with
        | ptr h2 =>
          rw [h1] at h2; cases h2
          split at h
          · exact ⟨_, _, h, by simp [execOp, hv, hv', eqGuard, binOp, run_eq_pp hu hz], .v _⟩
          · exact ⟨_, _, h, by simp [execOp, hv, hv', eqGuard, binOp, run_eq_pp hu hz], .v _⟩
          · exact h.elim
    · rename_i n1 i1 j1 ha hb
      rw [ha] at hx; rw [hb] at hy
      generalize hv : ρc x = va at hx
      generalize hv' : ρc y = vb at hy
      obtain ⟨⟨d, hu, hz⟩, h⟩ := h
      cases hx with
      | ptr h1 =>
        cases hy
        split at h
        · exact ⟨_, _, h, by simp [execOp, hv, hv', eqGuard, binOp, run_eq_p0 hu], .v _⟩
        · exact ⟨_, _, h, by simp [execOp, hv, hv', eqGuard, binOp, run_eq_p0 hu], .v _⟩
        · exact h.elim
    · exact h.elim
  case unOp o t x =>
    simp only at h
    have hx := hρ x
    split at h
    · rename_i k n _ hc
      rw [hc] at hx
      generalize hv : ρc x = va at hx
      cases hx
      exact ⟨_, _, h, by simp [execOp, hv, Op.unary, Op.intArith], .v _⟩
    · rename_i b _ hc
      rw [hc] at hx
      generalize hv : ρc x = va at hx
      cases hx
      exact ⟨_, _, h, by simp [execOp, hv, Op.unary], .v _⟩
    · exact h.elim
  case convert s d x =>
    simp only at h
    have hx := hρ x
    split at h
    · rename_i k0 n k hc hk
      rw [hc] at hx
      obtain ⟨hs, hK⟩ := h
      generalize hv : ρc x = va at hx
      cases hx
      obtain ⟨ds, hds⟩ := Option.isSome_iff_exists.mp hs
      exact ⟨_, _, hK, by simp [execOp, hv, convert, run_underlying hds, run_underlying (und_of_ikT hk), Conv.intToInt], .v _⟩
    · exact h.elim
  case makeFunc fn fst caps =>
    cases fn with
    | func f =>
      obtain ⟨rfl, hK⟩ := h
      refine ⟨_, _, hK, by simp [execOp, Instr.makeFunc]; rfl, .fn (by simp) fun k s u hs hu => ?_⟩
      simp only [List.getElem?_map, Array.getElem?_map, Array.getElem?_toList] at hs hu
      cases hc : caps[k]? with
      | none => simp [hc] at hs
      | some c => simp only [hc, Option.map_some, Option.some.injEq] at hs hu; subst hs; subst hu; exact hρ c
    | _ => exact h.elim
  case nilCheck x =>
    simp only at h
    have hx := hρ x
    split at h
    · rename_i n i j hc
      rw [hc] at hx
      generalize hv : ρc x = va at hx
      cases hx with
      | ptr hb => exact ⟨_, _, h, by simp [execOp, hv], .ptr hb⟩
    · rename_i c j hc
      rw [hc] at hx
      generalize hv : ρc x = va at hx
      cases hx with
      | rp u hX hb hu hR => exact ⟨_, _, h, by simp [execOp, hv], .rp u hX hb hu hR⟩
    · rename_i f c hc
      rw [hc] at hx
      generalize hv : ρc x = va at hx
      cases hx with
      | fn hl hR => exact ⟨_, _, h, by simp [execOp, hv], .fn hl hR⟩
    · exact h.elim
  case slice t x lo hi mx =>
    simp only at h
    split at h
    case h_2 => exact h.elim
    rename_i hp
    split at h
    case h_2 => exact h.elim
    rename_i har
    obtain ⟨av, u, h1, h2, h3⟩ := sliceK_sound hH (lo' := lo.map ρc) (hi' := hi.map ρc) (mx' := mx.map ρc) hp har (hρ x) (orel lo hρ) (orel hi hρ) (orel mx hρ) h
    exact ⟨av, u, h1, by simp [execOp, h2], h3⟩
  case build t parts =>
    simp only at h
    split at h
    case h_2 => exact h.elim
    rename_i z pl hz hpl
    obtain ⟨ti, zv, hti, hzv, hze⟩ : ∃ ti zv, P.info? t = some ti ∧ ti.zero = some zv ∧ zv.cells.toList = z := by
      unfold zeT at hz
      cases hi : P.info? t with
      | none => simp [hi] at hz
      | some ti =>
        cases hzv : ti.zero with
        | none => simp [hi, hzv] at hz
        | some zv => simp [hi, hzv] at hz; exact ⟨ti, zv, rfl, hzv, hz⟩
    have hzr : (zeroValue t).run P w = .ok zv w := by simp [zeroValue, typeInfo, hti, hzv]
    have hzl : (z.map AV.v).length = zv.cells.size := by simp [← hze]
    have hzR : ∀ (k : Nat) (s : AV) (u : Value), (z.map AV.v)[k]? = some s → zv.cells[k]? = some u → RS X β w s u := by
      intro k s u hs hu
      simp only [← hze, List.getElem?_map, Array.getElem?_toList, hu, Option.map_some, Option.some.injEq] at hs
      subst hs; exact .v _
    have hpp : ∀ (k : Nat) (p : Nat × AV) (q : Nat × Value), (parts.toList.map fun p => (p.1, ρ p.2))[k]? = some p → (parts.toList.map fun p => (p.1, ρc p.2))[k]? = some q → p.1 = q.1 ∧ RS X β w p.2 q.2 := by
      intro k p q hp hq
      simp only [List.getElem?_map, Option.map_eq_some_iff] at hp hq
      obtain ⟨a, ha, rfl⟩ := hp
      obtain ⟨b, hb, rfl⟩ := hq
      rw [ha] at hb; cases hb
      exact ⟨rfl, hρ _⟩
    obtain ⟨c, hf, hK⟩ := h
    unfold bldT at hpl
    split at hpl
    · rename_i fs hu
      split at hpl
      case isFalse => cases hpl
      rename_i hall; cases hpl
      obtain ⟨r, hr, hl, hR⟩ := fill_sound _ _ _ _ zv.cells (by simp) hpp hzl hzR hf
      refine ⟨_, .agg r, hK, ?_, .g hl hR⟩
      have hm : ∀ l : List Field, (∀ f ∈ l, 0 < szT P f.type) → (l.mapM (fun f => do pure (f.offset, ← sizeOf f.type) : Field → Sem (Nat × Nat))).run P w = .ok (l.map fun f => (f.offset, szT P f.type)) w := by
        intro l
        induction l with
        | nil => intro _; simp
        | cons f l ih =>
          intro hl
          rw [List.mapM_cons]
          simp only [Sem.run_bind, Sem.run_pure, run_sizeOf' (hl f (by simp)), Result.andThen_ok, ih (fun g hg => hl g (by simp [hg])), List.map_cons]
      have hm2 : (fs.mapM (fun f => do pure (f.offset, ← sizeOf f.type) : Field → Sem (Nat × Nat))).run P w = .ok (fs.map fun f => (f.offset, szT P f.type)) w := by
        rw [Array.mapM_eq_mapM_toList]
        have := hm fs.toList (fun f hf => by
          have := Array.all_eq_true'.1 hall f (by simpa using hf)
          simpa using this)
        simp only [Sem.run_map, this, Result.andThen_ok]
        congr 1
        apply Array.ext'; simp
      have hfl' : Instr.fill (fun i => (fs.map fun f => (f.offset, szT P f.type))[i]?) zv.cells (parts.map fun p => (p.1, ρc p.2)).toList = some r := by
        rw [← hr]; congr 1
        · funext i; simp
        · simp
      simp only [execOp, Instr.build, Sem.run_bind, hzr, Result.andThen_ok, run_underlying hu, hm2, Sem.run_pure]
      simp only [hfl']
      try rfl
    · rename_i n e hu
      split at hpl
      case isFalse => cases hpl
      rename_i hz0; cases hpl
      have hf' := fillA_more (place' := fun i => some (i * szT P e, szT P e)) (fun i x hx => by
        simp only [List.getElem?_map, Option.map_eq_some_iff] at hx
        obtain ⟨q, hq, rfl⟩ := hx
        rw [List.getElem?_range (by have := (List.getElem?_eq_some_iff.1 hq).1; simpa using this)] at hq
        cases hq; rfl) _ _ _ hf
      obtain ⟨r, hr, hl, hR⟩ := fill_sound _ _ _ _ zv.cells (by simp) hpp hzl hzR hf'
      refine ⟨_, .agg r, hK, ?_, .g hl hR⟩
      have hfl' : Instr.fill (fun i => some (i * szT P e, szT P e)) zv.cells (parts.map fun p => (p.1, ρc p.2)).toList = some r := by
        rw [← hr]; congr 1; simp
      simp only [execOp, Instr.build, Sem.run_bind, hzr, Result.andThen_ok, run_underlying hu, run_sizeOf' hz0, Sem.run_pure, hfl']
      try rfl
    · cases hpl
  case call c =>
    obtain ⟨callee, args, ats⟩ := c
    cases callee with
    | builtin b =>
      cases b
      case len =>
        simp only at h
        split at h
        case h_2 => exact h.elim
        rename_i x t hx ht
        obtain rfl : args = #[x] := by apply Array.ext'; simp [hx]
        obtain rfl : ats = #[t] := by apply Array.ext'; simp [ht]
        have hxr := hρ x
        split at h
        · rename_i e he
          have hu := und_of_slT he
          have key : ∀ a n c, (Builtin.len_ #[t] type #[Value.slice a n c]).run P w = .ok (goInt n) w := by
            intro a n c; simp [Builtin.len_, run_underlying hu]
          split at h
          · exact h.elim
          obtain ⟨n, hn, hK⟩ := h
          rename_i hns
          generalize hv : ρc x = va at hxr
          generalize ρ x = ra at hxr hn hns
          cases hxr with
          | v =>
            cases va <;> simp [lenA] at hn
            · exact (hns _ rfl).elim
            · subst hn; exact ⟨_, _, hK, by simp [execOp, resolve, invoke, builtin, hv, key], .v _⟩
          | sl hb hl hsh hc => simp [lenA] at hn; subst hn; exact ⟨_, _, hK, by simp [execOp, resolve, invoke, builtin, hv, key], .v _⟩
          | slz => simp [lenA] at hn; subst hn; exact ⟨_, _, hK, by simp [execOp, resolve, invoke, builtin, hv, key], .v _⟩
          | ez => simp [lenA] at hn; subst hn; exact ⟨_, _, hK, by simp [execOp, resolve, invoke, builtin, hv, key], .v _⟩
          | ro0 => simp [lenA] at hn; subst hn; exact ⟨_, _, hK, by simp [execOp, resolve, invoke, builtin, hv, key], .v _⟩
          | ro u hX hb hl hd hu' hR => simp [lenA] at hn; subst hn; exact ⟨_, _, hK, by simp [execOp, resolve, invoke, builtin, hv, key], .v _⟩
          | _ => simp [lenA] at hn
        · obtain ⟨hu, h⟩ := h
          split at h
          · rename_i s hc
            rw [hc] at hxr
            generalize hv : ρc x = va at hxr
            cases hxr
            exact ⟨_, _, h, by simp [execOp, resolve, invoke, builtin, hv, Builtin.len_, run_underlying hu], .v _⟩
          · exact h.elim
      case max =>
        simp only at h
        obtain ⟨r, hK, hr⟩ := max_sound (P := P) (ts := ats) (ty := type) hρ h
        exact ⟨_, r, hK, by simp [execOp, resolve, invoke, builtin, hr], .v _⟩
      case min =>
        simp only at h
        obtain ⟨r, hK, hr⟩ := min_sound (P := P) (ts := ats) (ty := type) hρ h
        exact ⟨_, r, hK, by simp [execOp, resolve, invoke, builtin, hr], .v _⟩
      case unsafeSliceData =>
        simp only at h
        split at h
        case h_2 => exact h.elim
        rename_i m i len hc
        obtain ⟨hlen, hK⟩ := h
        obtain ⟨x, hx, hρx⟩ : ∃ x, args.toList = [x] ∧ ρ x = .sl m i len := by
          cases hl : args.toList with
          | nil => rw [hl] at hc; cases hc
          | cons x r =>
            cases r with
            | nil => rw [hl] at hc; exact ⟨x, rfl, by simpa using hc⟩
            | cons y r => rw [hl] at hc; simp at hc
        have hr := hρ x
        rw [hρx] at hr
        have hargs : args = #[x] := by rw [← Array.toList_inj]; exact hx
        subst hargs
        generalize hv : ρc x = vx at hr
        cases hr with
        | sl hβ hl hs hcc =>
          rename_i cap b o e mm t
          have r := RS.ptr (X := X) (w := w) (i := i) (j := 0) hβ
          have hcap : cap ≠ 0 := by omega
          have hsd : Builtin.unsafeSliceData_ ats type #[.slice (some ⟨b, o + i * e, none⟩) len cap] = if cap ≠ 0 then pure (.pointer (some ⟨b, o + i * e, none⟩)) else (do if (← viewAt b).isSome then pure (.pointer (some ⟨b, o + i * e, none⟩)) else pure (.pointer (some ⟨← newObj (.view ⟨b, o + i * e, none⟩ (← elemOf type)), 0, none⟩))) := rfl
          rw [if_pos hcap] at hsd
          exact ⟨_, _, hK, by simp [execOp, resolve, invoke, builtin, hv, hsd], r⟩
        | slz => omega
      all_goals exact h.elim
    | _ => exact h.elim
  all_goals exact h.elim
end
end Go.Eng

set_option linter.unusedSimpArgs false
set_option linter.unusedVariables false
namespace Go.Eng
open Go Go.RowKit

def evA (t : Nat → AV) : Operand → AV
  | .tmp i => t i
  | .const v => ofV v
  | .func f => .fn f []
  | .global _ => .unk
def upd (t : Nat → AV) (d : Nat) (x : AV) : Nat → AV := fun i => if i = d then x else t i
def putA (s : AState) (d : Option Nat) (x : AV) : AState :=
  match d with
  | some d => if d < s.n then { s with t := upd s.t d x } else s
  | none => s
def pushA (s : AState) (k : Blk) : AState := { s with h := (s.k, k) :: s.h, k := s.k + 1 }

section
variable {C : Ctx} {s : AState} {β : Bt} {a : Act} {w : World}

theorem StR.read (h : StR C s β a w) (x : Operand) : RS (XOf C.F β s.h) β w (evA s.t x) (a.eval x) := by
  cases x with
  | tmp i => exact h.tm i
  | const v => exact .ofV v
  | func f => exact .fn rfl fun k s u hs _ => by simp at hs
  | global g => exact .unk _

theorem StR.look (h : StR C s β a w) (n : Nat) (k : Blk) (hk : find s.h n = some k) : OwnR (XOf C.F β s.h) β w n k := h.own _ (find_mem hk)

theorem StR.put (h : StR C s β a w) {x : AV} {u : Value} (hx : RS (XOf C.F β s.h) β w x u) (d : Option Nat) : StR C (putA s d x) β (a.put d u) w := by
  cases d with
  | none => exact h
  | some d =>
    unfold putA
    simp only
    split
    · rename_i hd
      refine ⟨h.defers, by simp [Act.put, h.size], fun i => ?_, h.own, h.lt, h.βlt, h.nd, h.inj, h.mine, h.fr, h.Flt, h.sv, h.yy⟩
      simp only [upd]
      split
      · rename_i hdi; subst hdi
        have : (a.put (some i) u).tmps.getD i undef = u := by
          have : i < a.tmps.size := by rw [h.size]; exact hd
          simp [Act.put, Array.getD, this]
        rw [this]; exact hx
      · rename_i hdi
        have : (a.put (some d) u).tmps.getD i undef = a.tmps.getD i undef := by
          simp only [Act.put, Array.getD_eq_getD_getElem?, Array.getElem?_setIfInBounds]
          rw [if_neg (fun e => hdi e.symm)]
        rw [this]; exact h.tm i
    · rename_i hd
      have : a.put (some d) u = a := by
        simp only [Act.put]
        rw [Array.setIfInBounds_eq_of_size_le (by rw [h.size]; omega)]
      rw [this]; exact h

/-- A drawn order, or anything that turns no block and no stream. -/
theorem Fr.same {Pm : Nat → Prop} {W w w' : World} (h : Fr Pm W w) (h1 : w'.os = w.os) (h2 : w'.tape = w.tape) (h3 : w'.output = w.output) (h4 : w'.heap = w.heap) : Fr Pm W w' :=
  ⟨h1.trans h.os, h2.trans h.tape, h3.trans h.output, by rw [h4]; exact h.size, fun b hb hp => by rw [h4]; exact h.block b hb hp,
   fun b t m hs => by have := h.shape b t m hs; unfold World.shape? at *; rw [h4]; exact this⟩

theorem Mono.same {X : Nat → Prop} {β : Bt} {w w' : World} (h4 : w'.heap = w.heap) : Mono X β w X β w' :=
  ⟨fun _ h h' => absurd h h', fun _ _ h => h, by rw [h4]; exact Nat.le_refl _, fun _ _ _ => by rw [h4], fun b t m h => by unfold World.shape? at *; rw [h4]; exact h⟩

theorem StR.same (h : StR C s β a w) {w' : World} (h1 : w'.os = w.os) (h2 : w'.tape = w.tape) (h3 : w'.output = w.output) (h4 : w'.heap = w.heap) : StR C s β a w' := by
  refine ⟨h.defers.keep fun D _ _ _ _ => by rw [h4], h.size, fun i => ?_, fun p hp => (h.own p hp).mono (.same h4) (fun _ _ _ _ => by rw [h4]) (fun h => h), h.lt, h.βlt, h.nd, h.inj, h.mine, h.fr.same h1 h2 h3 h4, h.Flt, h.sv.mono (.same h4), h.yy⟩
  exact (h.tm i).mono (.same h4)

/-- A world that has grown by blocks, nothing else. -/
structure Ext (w w' : World) : Prop where
  os : w'.os = w.os
  tape : w'.tape = w.tape
  output : w'.output = w.output
  size : w.heap.size ≤ w'.heap.size
  block : ∀ b, b < w.heap.size → w'.heap[b]? = w.heap[b]?

theorem Ext.refl (w : World) : Ext w w := ⟨rfl, rfl, rfl, Nat.le_refl _, fun _ _ => rfl⟩
theorem Ext.shape {w w' : World} (e : Ext w w') {b t m : Nat} (h : w.shape? b = some (t, m)) : w'.shape? b = some (t, m) := by
  have hb : b < w.heap.size := by
    rcases Nat.lt_or_ge b w.heap.size with h' | h'
    · exact h'
    · simp [World.shape?, Array.getElem?_eq_none h'] at h
  rw [shape_of_heap (e.block b hb)]; exact h
theorem Ext.mono {w w' : World} (e : Ext w w') (X : Nat → Prop) (β : Bt) : Mono X β w X β w' :=
  ⟨fun _ h h' => absurd h h', fun _ _ h => h, e.size, fun b hb _ => e.block b hb, fun _ _ _ h => e.shape h⟩
theorem Fr.ext {Pm : Nat → Prop} {W w w' : World} (h : Fr Pm W w) (e : Ext w w') : Fr Pm W w' :=
  ⟨e.os.trans h.os, e.tape.trans h.tape, e.output.trans h.output, Nat.le_trans h.size e.size,
   fun b hb hp => (e.block b (Nat.lt_of_lt_of_le hb h.size)).trans (h.block b hb hp), fun b t m hs => e.shape (h.shape b t m hs)⟩
theorem Ext.push (w : World) (o : Obj) : Ext w { w with heap := w.heap.push o } :=
  ⟨rfl, rfl, rfl, by simp, fun b hb => by simp [Array.getElem?_push]; omega⟩
theorem Ext.trans {a b c : World} (h : Ext a b) (k : Ext b c) : Ext a c :=
  ⟨k.os.trans h.os, k.tape.trans h.tape, k.output.trans h.output, Nat.le_trans h.size k.size,
   fun i hi => (k.block i (Nat.lt_of_lt_of_le hi h.size)).trans (h.block i hi)⟩

theorem StR.lt_size (h : StR C s β a w) {p : Nat × Blk} (hp : p ∈ s.h) {b o e : Nat} (hb : β p.1 = some (b, o, e)) : b < w.heap.size := by
  rcases h.own p hp with ⟨b', o', c, t, h1, h2, _⟩ | ⟨_, h2⟩
  · rw [h1] at hb; cases hb; exact (Array.getElem?_eq_some_iff.1 h2).1
  · rw [h2] at hb; cases hb

theorem StR.ext (h : StR C s β a w) {w' : World} (e : Ext w w') : StR C s β a w' := by
  refine ⟨h.defers.keep fun D _ hD _ _ => e.block D (lt_of_get hD), h.size, fun i => ?_, fun p hp => (h.own p hp).mono (e.mono _ _) (fun b o e' hb => e.block b (h.lt_size hp hb)) (fun h => h), h.lt, h.βlt, h.nd, h.inj, h.mine, h.fr.ext e, h.Flt, h.sv.mono (e.mono _ _), h.yy⟩
  exact (h.tm i).mono (e.mono _ _)

def updB (β : Bt) (n : Nat) (r : Nat × Nat × Nat) : Bt := fun m => if m = n then some r else β m

/-- What the new block's row of cells must be for its contents. -/
def NewR (X : Nat → Prop) (β : Bt) (w : World) (k : Blk) (c : Array Value) : Prop :=
  (∀ ch ∈ k.l, ch.length = k.e) ∧ k.l.length * k.e ≤ c.size ∧
    ∀ (i j : Nat) (ch : List AV) (s : AV), k.l[i]? = some ch → ch[j]? = some s → ∃ u, c[i * k.e + j]? = some u ∧ RS X β w s u

theorem StR.push (h : StR C s β a w) {k : Blk} {c : Array Value} {t : TypeId} (hc : NewR (XOf C.F β s.h) β w k c) :
    StR C (pushA s k) (updB β s.k (w.heap.size, 0, k.e)) a { w with heap := w.heap.push (.cells c t (0, 0)) } := by
  have hfresh : β s.k = none := by
    cases hb : β s.k with
    | none => rfl
    | some r => exact absurd (h.βlt _ _ hb) (Nat.lt_irrefl _)
  have hne : ∀ p ∈ s.h, p.1 ≠ s.k := fun p hp => Nat.ne_of_lt (h.lt p hp)
  have hup : ∀ p ∈ s.h, updB β s.k (w.heap.size, 0, k.e) p.1 = β p.1 := fun p hp => by simp [updB, hne p hp]
  have hFlt : ∀ b, C.F b → b < w.heap.size := fun b hb => Nat.lt_of_lt_of_le (h.Flt b hb) h.fr.size
  have m : Mono (XOf C.F β s.h) β w (XOf C.F (updB β s.k (w.heap.size, 0, k.e)) (pushA s k).h) (updB β s.k (w.heap.size, 0, k.e)) { w with heap := w.heap.push (.cells c t (0, 0)) } := by
    refine ⟨fun b hb hn => ?_, fun n r hr => ?_, by simp, fun b hb _ => (Ext.push w _).block b hb, fun _ _ _ hs => (Ext.push w _).shape hs⟩
    · rcases hb with hb | ⟨p, hp, o, e, hb⟩
      · exact absurd (.inl hb) hn
      · simp only [pushA, List.mem_cons] at hp
        rcases hp with rfl | hp
        · simp [updB] at hb; omega
        · rw [hup p hp] at hb; exact absurd (.inr ⟨p, hp, o, e, hb⟩) hn
    · unfold updB; split
      · rename_i hn; subst hn; rw [hfresh] at hr; cases hr
      · exact hr
  refine ⟨h.defers.keep fun D _ hD _ _ => (Ext.push w _).block D (lt_of_get hD), h.size, fun i => ?_, fun p hp => ?_, fun p hp => ?_, fun n r hr => ?_, ?_, ?_, ?_, h.fr.ext (Ext.push w _), h.Flt, h.sv.mono m, h.yy⟩
  · exact (h.tm i).mono m
  · simp only [pushA, List.mem_cons] at hp
    rcases hp with rfl | hp
    · refine .inl ⟨w.heap.size, 0, c, t, by simp [updB], by simp, hc.1, by simpa using hc.2.1, fun i j ch s hi hj => ?_⟩
      obtain ⟨u, hu, hr⟩ := hc.2.2 i j ch s hi hj
      exact ⟨u, by simpa using hu, hr.mono m⟩
    · refine (h.own p hp).mono m (fun b o e hb => (Ext.push w _).block b (h.lt_size hp hb)) (fun hn => by rw [hup p hp]; exact hn)
  · simp only [pushA, List.mem_cons] at hp ⊢
    rcases hp with rfl | hp
    · exact Nat.lt_succ_self _
    · exact Nat.lt_succ_of_lt (h.lt p hp)
  · unfold updB at hr; simp only [pushA]
    split at hr
    · rename_i hn; subst hn; exact Nat.lt_succ_self _
    · exact Nat.lt_succ_of_lt (h.βlt _ _ hr)
  · simp only [pushA, List.map_cons, List.nodup_cons]
    refine ⟨fun hm => ?_, h.nd⟩
    obtain ⟨p, hp, he⟩ := List.mem_map.1 hm
    exact hne p hp he
  · intro p hp q hq b o e o' e' h1 h2
    simp only [pushA, List.mem_cons] at hp hq
    rcases hp with rfl | hp <;> rcases hq with rfl | hq
    · rfl
    · rw [hup q hq] at h2
      have := h.lt_size hq h2
      simp [updB] at h1; omega
    · rw [hup p hp] at h1
      have := h.lt_size hp h1
      simp [updB] at h2; omega
    · rw [hup p hp] at h1; rw [hup q hq] at h2
      exact h.inj p hp q hq b o e o' e' h1 h2
  · intro p hp b o e hb
    simp only [pushA, List.mem_cons] at hp
    rcases hp with rfl | hp
    · simp [updB] at hb
      obtain ⟨rfl, _⟩ := hb
      exact ⟨.inl h.fr.size, fun hF => by have := hFlt _ hF; omega⟩
    · rw [hup p hp] at hb; exact h.mine p hp b o e hb
end

def chunksA (z : Nat) : List AV → Option (List (List AV))
  | [] => some []
  | x :: r => match cellsA x, chunksA z r with
    | some c, some l => if c.length = z then some (c :: l) else none
    | _, _ => none

def nev (P : Program) (ρ : Operand → AV) (op : Op) (n : Nat) (K : AV → Blk → Prop) : Prop :=
  match op with
  | .box _ x => (match cellsA (ρ x) with | some l => K (.ptr n 0 0) ⟨l.length, [l]⟩ | none => False)
  | .alloc t => (match zeT P t with | some z => K (.ptr n 0 0) ⟨z.length, [z.map .v]⟩ | none => False)
  | .buildSlice t len parts =>
    (match slT P t with
     | some e => (0 < szT P e ∧ len * szT P e ≤ 16777216 ∧ (zeT P e).isSome = true ∧ parts.toList.map (·.1) = List.range len) ∧
        ∃ cs, chunksA (szT P e) (parts.toList.map fun p => ρ p.2) = some cs ∧ K (.sl n 0 len) ⟨szT P e, cs⟩
     | none => False)
  | .makeSlice t l c =>
    (match slT P t, asI (ρ l), asI (ρ c) with
     | some e, some (_, x), some (_, y) => (0 < szT P e ∧ 0 ≤ x ∧ x ≤ y ∧ y ≤ 274877906944 ∧ byT P e ≤ 256) ∧
        (match zeT P e with | some z => z.length = szT P e ∧ K (.sl n 0 x.toNat) ⟨szT P e, List.replicate x.toNat (z.map .v)⟩ | none => False)
     | _, _, _ => False)
  | _ => False

section
variable {P : Program} {X : Nat → Prop} {β : Bt} {w : World}

theorem zeT_run {t : TypeId} {z : List Value} (h : zeT P t = some z) : ∃ zv, (zeroValue t).run P w = .ok zv w ∧ zv.cells.toList = z := by
  unfold zeT at h
  cases hi : P.info? t with
  | none => simp [hi] at h
  | some ti =>
    cases hzv : ti.zero with
    | none => simp [hi, hzv] at h
    | some zv => simp [hi, hzv] at h; exact ⟨zv, by simp [zeroValue, typeInfo, hi, hzv], h⟩

/-- What the value of a new block's address or slice means, wherever that block comes to lie under the name n. -/
def NewV (n : Nat) (e b t m : Nat) (av : AV) (u : Value) : Prop :=
  ∀ X β w, β n = some (b, 0, e) → w.shape? b = some (t, m) → RS X β w av u

theorem wrap_i64 {x : Int} (h : -9223372036854775808 ≤ x) (h' : x ≤ 9223372036854775807) : IntKind.i64.wrap x = x := by
  have e1 : (2 : Int) ^ 64 = 18446744073709551616 := by decide
  have e2 : (2 : Int) ^ (64 - 1) = 9223372036854775808 := by decide
  simp only [IntKind.wrap, IntKind.bits, IntKind.signed, Bool.true_and, decide_eq_true_eq, e1, e2]
  split <;> omega

theorem flat_get {α : Type} {z : Nat} : ∀ (cs : List (List α)), (∀ c ∈ cs, c.length = z) → ∀ (i j : Nat) (c : List α) (s : α), cs[i]? = some c → c[j]? = some s → cs.flatten[i * z + j]? = some s
  | [], _, i, j, c, s, hi, _ => by simp at hi
  | d :: cs, h, 0, j, c, s, hi, hj => by
    simp at hi; subst hi
    have hjl := (List.getElem?_eq_some_iff.1 hj).1
    simp only [List.flatten_cons, Nat.zero_mul, Nat.zero_add]
    rw [List.getElem?_append_left hjl]; exact hj
  | d :: cs, h, i + 1, j, c, s, hi, hj => by
    have hd := h d (by simp)
    simp only [List.flatten_cons]
    rw [List.getElem?_append_right (by rw [hd, Nat.succ_mul]; omega)]
    have := flat_get cs (fun c hc => h c (by simp [hc])) i j c s (by simpa using hi) hj
    rw [← this]; congr 1; rw [hd, Nat.succ_mul]; omega

theorem chunksA_len {z : Nat} : ∀ (xs : List AV) (cs : List (List AV)), chunksA z xs = some cs → cs.length = xs.length ∧ ∀ c ∈ cs, c.length = z
  | [], cs, h => by simp [chunksA] at h; subst h; simp
  | x :: xs, cs, h => by
    unfold chunksA at h
    split at h
    · rename_i c l hc hl
      split at h
      · rename_i hz; cases h
        obtain ⟨h1, h2⟩ := chunksA_len xs l hl
        exact ⟨by simp [h1], fun d hd => (List.mem_cons.1 hd).elim (fun e => e ▸ hz) (h2 d)⟩
      · cases h
    · cases h

theorem fillA_seq {z : Nat} : ∀ (xs : List AV) (k : Nat) (cells : List AV) (cs : List (List AV)), chunksA z xs = some cs → (k + xs.length) * z ≤ cells.length →
    fillA (fun i => some (i * z, z)) cells ((List.range' k xs.length).zip xs) = some (cells.take (k * z) ++ cs.flatten ++ cells.drop ((k + xs.length) * z))
  | [], k, cells, cs, h, hl => by simp [chunksA] at h; subst h; simp [fillA]
  | x :: xs, k, cells, cs, h, hl => by
    unfold chunksA at h
    split at h
    case h_2 => cases h
    rename_i c l hc hlx
    split at h
    case isFalse => cases h
    rename_i hz; cases h
    have e1 : (k + (x :: xs).length) * z = k * z + z + xs.length * z := by simp only [List.length_cons]; rw [show k + (xs.length + 1) = k + 1 + xs.length by omega, Nat.add_mul, Nat.succ_mul]
    rw [e1] at hl ⊢
    have hb : c.length = z ∧ k * z + c.length ≤ cells.length := ⟨hz, by omega⟩
    have hk : k * z ≤ cells.length := by omega
    simp only [List.length_cons, List.range'_succ, List.zip_cons_cons, fillA, hc]
    rw [if_pos hb]
    rw [fillA_seq xs (k + 1) _ l hlx (by simp only [List.length_append, List.length_take, List.length_drop, Nat.min_eq_left hk]; rw [show k + 1 + xs.length = k + (1 + xs.length) by omega, Nat.add_mul, Nat.add_mul]; omega)]
    congr 1
    have e2 : (k + 1) * z = k * z + z := Nat.succ_mul k z
    have e3 : (k + 1 + xs.length) * z = k * z + z + xs.length * z := by rw [Nat.add_mul, Nat.succ_mul]
    rw [e2, e3]
    have ht : (cells.take (k * z) ++ c ++ cells.drop (k * z + c.length)).take (k * z + z) = cells.take (k * z) ++ c := by
      rw [List.take_append_of_le_length (by simp [hz, Nat.min_eq_left hk])]
      rw [List.take_of_length_le (by simp [hz, Nat.min_eq_left hk])]
    have hd : (cells.take (k * z) ++ c ++ cells.drop (k * z + c.length)).drop (k * z + z + xs.length * z) = cells.drop (k * z + z + xs.length * z) := by
      rw [List.drop_append, List.drop_of_length_le (by simp [hz, Nat.min_eq_left hk])]
      simp only [List.nil_append, List.drop_drop, List.length_append, List.length_take, Nat.min_eq_left hk, hz]
      congr 1; omega
    rw [ht, hd]
    simp

theorem nev_sound {ρ : Operand → AV} {ρc : Operand → Value} {o : Oper} {n : Nat} {K : AV → Blk → Prop} (hρ : ∀ x, RS X β w (ρ x) (ρc x)) (h : nev P ρ o.op n K) :
    ∃ av k u c t, K av k ∧ (execOp ρc o).run P w = .ok (.value u) { w with heap := w.heap.push (.cells c t (0, 0)) } ∧ NewR X β w k c ∧ NewV n k.e w.heap.size t c.size av u := by
  obtain ⟨dst, op, type, pos, after, guard⟩ := o
  simp only at h
  unfold nev at h
  cases op
  case box e x =>
    simp only at h
    split at h
    case h_2 => exact h.elim
    rename_i l hl
    obtain ⟨h1, h2⟩ := (hρ x).cells hl
    refine ⟨_, _, .pointer (some ⟨w.heap.size, 0, none⟩), (ρc x).cells, e, h, by simp [execOp, Instr.box, newVar, newRow], ⟨by simp, by simp [h1], fun i j ch s hi hj => ?_⟩, fun X β w hb _ => by simpa using RS.ptr (i := 0) (j := 0) hb⟩
    match i with
    | 0 =>
      simp at hi; subst hi
      have hj' : j < (ρc x).cells.size := by have := (List.getElem?_eq_some_iff.1 hj).1; omega
      exact ⟨(ρc x).cells[j], by simp [hj'], h2 j s _ hj (by simp [hj'])⟩
    | i + 1 => simp at hi
  case alloc e =>
    simp only at h
    split at h
    case h_2 => exact h.elim
    rename_i z hz
    obtain ⟨zv, hzr, hze⟩ := zeT_run (w := w) hz
    refine ⟨_, _, .pointer (some ⟨w.heap.size, 0, none⟩), zv.cells, e, h, by simp [execOp, Instr.alloc, newVar, newRow, hzr], ⟨by simp, by simp [← hze], fun i j ch s hi hj => ?_⟩, fun X β w hb _ => by simpa using RS.ptr (i := 0) (j := 0) hb⟩
    match i with
    | 0 =>
      simp at hi; subst hi
      simp only [← hze, List.getElem?_map, Option.map_eq_some_iff, Array.getElem?_toList] at hj
      obtain ⟨u, hu, rfl⟩ := hj
      exact ⟨u, by simpa using hu, .v _⟩
    | i + 1 => simp at hi
  case buildSlice t len parts =>
    simp only at h
    split at h
    case h_2 => exact h.elim
    rename_i e he
    obtain ⟨⟨hz, hsm, hze, hidx⟩, cs, hcs, hK⟩ := h
    have hu := und_of_slT he
    obtain ⟨zl, hzl⟩ := Option.isSome_iff_exists.mp hze
    obtain ⟨zv, hzr, _⟩ := zeT_run (w := w) hzl
    obtain ⟨hcl, hcz⟩ := chunksA_len _ _ hcs
    have hlen : parts.size = len := by have := congrArg List.length hidx; simpa using this
    simp only [List.length_map, Array.length_toList, hlen] at hcl
    generalize hzz : (if len * szT P e = 0 then (#[] : Array Value) else zv.cells) = zz
    have hq := fillA_seq (parts.toList.map fun p => ρ p.2) 0 (List.replicate (len * szT P e) .unk) cs hcs (by simp [hlen])
    have hpz : (List.range' 0 (parts.toList.map fun p => ρ p.2).length).zip (parts.toList.map fun p => ρ p.2) = parts.toList.map fun p => (p.1, ρ p.2) := by
      rw [← List.range_eq_range']
      simp only [List.length_map, Array.length_toList, hlen, ← hidx]
      rw [List.zip_map']
    rw [hpz] at hq
    obtain ⟨r, hr, hrl, hrR⟩ := fill_sound (X := X) (β := β) (w := w) _ (parts.toList.map fun p => (p.1, ρc p.2)) _ _ ((Array.range (len * szT P e)).map (zz[· % zz.size]!)) (by simp)
      (fun k p q hp hq => by
        simp only [List.getElem?_map, Option.map_eq_some_iff] at hp hq
        obtain ⟨a, ha, rfl⟩ := hp
        obtain ⟨b, hb, rfl⟩ := hq
        rw [ha] at hb; cases hb
        exact ⟨rfl, hρ _⟩) (by simp) (fun k s u hs hu => by
        simp only [List.getElem?_replicate] at hs
        split at hs
        · cases hs; exact .unk _
        · cases hs) hq
    have hrl' : r.size = len * szT P e := by
      rw [← hrl]; simp [hlen, List.length_flatten]
      have : (cs.map List.length).sum = cs.length * szT P e := by
        clear hcs hq hK hrl hrR hcl
        induction cs with
        | nil => simp
        | cons c cs ih => simp [hcz c (by simp), ih (fun d hd => hcz d (by simp [hd])), Nat.succ_mul]; omega
      rw [this, hcl]
    refine ⟨_, _, .slice (some ⟨w.heap.size, 0, none⟩) len len, r, e, hK, ?_, ⟨hcz, by rw [hrl', hcl]; exact Nat.le_refl _, fun i j ch s hi hj => ?_⟩, fun X β w hb hs => ?_⟩
    · have hnb : ¬ len * szT P e > 2 ^ 24 := by omega
      have hfl : Instr.fill (fun i => some (i * szT P e, szT P e)) ((Array.range (len * szT P e)).map (zz[· % zz.size]!)) (parts.map fun p => (p.1, ρc p.2)).toList = some r := by
        rw [← hr]; congr 1; simp
      by_cases h0 : len * szT P e = 0
      · rw [if_pos h0] at hzz; subst hzz
        simp only [execOp, Instr.buildSlice, Sem.run_bind, run_underlying hu, Result.andThen_ok, run_sizeOf' hz, hnb, if_false, if_pos h0, Sem.run_pure, hfl, newRow, run_newObj]
      · rw [if_neg h0] at hzz; subst hzz
        simp only [execOp, Instr.buildSlice, Sem.run_bind, run_underlying hu, Result.andThen_ok, run_sizeOf' hz, hnb, if_false, if_neg h0, hzr, Sem.run_pure, hfl, newRow, run_newObj]
    · have hf := flat_get cs hcz i j ch s hi hj
      have hlt : i * szT P e + j < r.size := by
        have h1 : i < cs.length := (List.getElem?_eq_some_iff.1 hi).1
        have h2 := (List.getElem?_eq_some_iff.1 hj).1
        have h3 := hcz ch (List.mem_of_getElem? hi)
        have : (i + 1) * szT P e ≤ len * szT P e := Nat.mul_le_mul_right _ (by omega)
        rw [Nat.succ_mul] at this
        omega
      exact ⟨r[i * szT P e + j], by simp [hlt], hrR _ s _ (by
        simp only [Nat.zero_mul, List.take_zero, List.nil_append]
        rw [List.getElem?_append_left (List.getElem?_eq_some_iff.1 hf).1]; exact hf) (by simp [hlt])⟩
    · have := RS.sl (X := X) (i := 0) (len := len) (cap := len) hb (Nat.le_refl _) hs (by simp [hrl'])
      simpa using this
  case makeSlice t l c =>
    simp only at h
    split at h
    case h_2 => exact h.elim
    rename_i e k1 x k2 y he hx hy
    obtain ⟨⟨hz, h0, hxy, hbig, hby⟩, h⟩ := h
    split at h
    case h_2 => exact h.elim
    rename_i z hzz
    obtain ⟨hzl, hK⟩ := h
    have hu := und_of_slT he
    obtain ⟨zv, hzr, hze⟩ := zeT_run (w := w) hzz
    have hx' := (hρ l).asI hx
    have hy' := (hρ c).asI hy
    obtain ⟨ti, hti, hsz⟩ : ∃ ti, P.info? e = some ti ∧ ti.bytes = byT P e := by
      unfold szT at hz; unfold byT
      cases hi : P.info? e with
      | none => simp [hi] at hz
      | some ti => exact ⟨ti, rfl, by simp⟩
    have w1 : IntKind.i64.wrap x = x := wrap_i64 (by omega) (by omega)
    have w2 : IntKind.i64.wrap y = y := wrap_i64 (by omega) (by omega)
    have hmul : (byT P e : Int) * y ≤ 256 * 274877906944 := Int.le_trans (Int.mul_le_mul_of_nonneg_right (by omega : (byT P e : Int) ≤ 256) (by omega)) (Int.mul_le_mul_of_nonneg_left hbig (by omega))
    have hmul0 : 0 ≤ (byT P e : Int) * y := Int.mul_nonneg (by omega) (by omega)
    generalize hzz : (if y.toNat * szT P e = 0 then (#[] : Array Value) else zv.cells) = zz
    have hcond : ¬ ((decide (y < 0) || decide ((byT P e : Int) * y > 2 ^ 48)) || decide (x < 0) || decide (x > y)) = true := by
      simp; omega
    refine ⟨_, _, .slice (some ⟨w.heap.size, 0, none⟩) x.toNat y.toNat, (Array.range (y.toNat * szT P e)).map (zz[· % zz.size]!), e, hK, ?_, ⟨?_, ?_, fun i j ch s hi hj => ?_⟩, fun X β w hb hs => ?_⟩
    · have hti' : (typeInfo e).run P w = .ok ti w := by simp [typeInfo, hti]
      rw [← hsz] at hcond
      by_cases h0 : y.toNat * szT P e = 0
      · rw [if_pos h0] at hzz; subst hzz
        simp only [execOp, hx', hy', Instr.makeSlice, Sem.run_bind, run_underlying hu, Result.andThen_ok, asInt, asIntOf, Sem.run_pure, hti', w1, w2, run_sizeOf' hz, Sem.run_ite, if_neg hcond, run_askRoom, if_pos h0, newRow, run_newObj]
        try rfl
      · rw [if_neg h0] at hzz; subst hzz
        simp only [execOp, hx', hy', Instr.makeSlice, Sem.run_bind, run_underlying hu, Result.andThen_ok, asInt, asIntOf, Sem.run_pure, hti', w1, w2, run_sizeOf' hz, Sem.run_ite, if_neg hcond, run_askRoom, if_neg h0, hzr, newRow, run_newObj]
        try rfl
    · intro ch hch; rw [List.eq_of_mem_replicate hch]; simp [hzl]
    · simp; exact Nat.mul_le_mul_right _ (by omega)
    · rw [List.getElem?_replicate] at hi
      split at hi
      case isFalse => cases hi
      rename_i hix; cases hi
      simp only [List.getElem?_map, Option.map_eq_some_iff] at hj
      obtain ⟨u, hu', rfl⟩ := hj
      have hjl : j < szT P e := by have := (List.getElem?_eq_some_iff.1 hu').1; omega
      have : (i + 1) * szT P e ≤ y.toNat * szT P e := Nat.mul_le_mul_right _ (by omega)
      rw [Nat.succ_mul] at this
      refine ⟨u, ?_, .v _⟩
      have hne : ¬ y.toNat * szT P e = 0 := by omega
      rw [if_neg hne] at hzz
      subst hzz
      have hsz2 : zv.cells.size = szT P e := by rw [← hzl, ← hze]; simp
      simp only [Array.getElem?_map]
      rw [Array.getElem?_range, if_pos (by omega)]
      simp only [Option.map_some, hsz2]
      rw [show (i * szT P e + j) % szT P e = j by rw [Nat.mul_comm, Nat.mul_add_mod]; exact Nat.mod_eq_of_lt hjl]
      rw [← hze] at hu'
      rw [Array.getElem?_toList] at hu'
      have := Array.getElem?_eq_some_iff.1 hu'
      simp [this.1, this.2]
    · have := RS.sl (X := X) (i := 0) (len := x.toNat) (cap := y.toNat) hb (by omega) hs (by simp)
      simpa using this
  all_goals exact h.elim
end
end Go.Eng

set_option linter.unusedSimpArgs false
set_option linter.unusedVariables false
namespace Go.Eng
open Go Go.RowKit

inductive Cl : AV → Prop
  | v (x : Value) : Cl (.v x)
  | unk : Cl .unk
  | ez : Cl .ez
  | ro {e : Nat} {l : List (List AV)} (h : ∀ c ∈ l, ∀ s ∈ c, Cl s) : Cl (.ro e l)
  | rp {c : List AV} {j : Nat} (h : ∀ s ∈ c, Cl s) : Cl (.rp c j)
  | fn {f : FuncId} {c : List AV} (h : ∀ s ∈ c, Cl s) : Cl (.fn f c)
  | g {c : List AV} (h : ∀ s ∈ c, Cl s) : Cl (.g c)
  | t {c : List AV} (h : ∀ s ∈ c, Cl s) : Cl (.t c)

theorem Cl_v {x : Value} : Cl (.v x) ↔ True := ⟨fun _ => trivial, fun _ => .v x⟩
theorem Cl_ro {e : Nat} {l : List (List AV)} : Cl (.ro e l) ↔ ∀ c ∈ l, ∀ s ∈ c, Cl s := ⟨fun h => by cases h; assumption, .ro⟩
theorem Cl_rp {c : List AV} {j : Nat} : Cl (.rp c j) ↔ ∀ s ∈ c, Cl s := ⟨fun h => by cases h; assumption, .rp⟩
theorem Cl_fn {f : FuncId} {c : List AV} : Cl (.fn f c) ↔ ∀ s ∈ c, Cl s := ⟨fun h => by cases h; assumption, .fn⟩
theorem Cl_g {c : List AV} : Cl (.g c) ↔ ∀ s ∈ c, Cl s := ⟨fun h => by cases h; assumption, .g⟩
theorem Cl_t {c : List AV} : Cl (.t c) ↔ ∀ s ∈ c, Cl s := ⟨fun h => by cases h; assumption, .t⟩
def B0 : Bt := fun _ => none

theorem RS.closed {X : Nat → Prop} {β : Bt} {w : World} {a : AV} {x : Value} (h : RS X β w a x) (hc : Cl a) (β' : Bt) : RS X β' w a x := by
  induction h with
  | v x => exact .v x
  | unk x => exact .unk x
  | tb h hs => cases hc
  | ptr h => cases hc
  | sl h hl hs hc' => cases hc
  | slz => cases hc
  | ez => exact .ez
  | ro0 => exact .ro0
  | ro u hX hb hl hd hu _ ih =>
    cases hc with
    | ro hc => exact .ro u hX hb hl hd hu fun i j c s hi hj => ih i j c s hi hj (hc c (List.mem_of_getElem? hi) s (List.mem_of_getElem? hj))
  | rp u hX hb hu _ ih =>
    cases hc with
    | rp hc => exact .rp u hX hb hu fun k s hk => ih k s hk (hc s (List.mem_of_getElem? hk))
  | fn hl _ ih =>
    cases hc with
    | fn hc => exact .fn hl fun k s u hs hu => ih k s u hs hu (hc s (List.mem_of_getElem? hs))
  | g hl _ ih =>
    cases hc with
    | g hc => exact .g hl fun k s u hs hu => ih k s u hs hu (hc s (List.mem_of_getElem? hs))
  | t hl _ ih =>
    cases hc with
    | t hc => exact .t hl fun k s u hs hu => ih k s u hs hu (hc s (List.mem_of_getElem? hs))

/-- The names that freezing this value uses up. -/
def namesA (H : Nat → Option Blk) : Nat → AV → List Nat
  | 0, _ => []
  | d + 1, .ptr n i _ => n :: (match H n with | some k => (match k.l[i]? with | some ch => ch.flatMap (namesA H d) | none => []) | none => [])
  | _ + 1, .sl n _ _ => [n]
  | d + 1, .fn _ c => c.flatMap (namesA H d)
  | d + 1, .g c => c.flatMap (namesA H d)
  | _ + 1, _ => []

/-- A stretch of a list; the whole list where it is the whole. -/
def takeA (i len : Nat) (l : List (List AV)) : List (List AV) := if i = 0 ∧ len = l.length then l else (l.drop i).take len
theorem takeA_eq (i len : Nat) (l : List (List AV)) : takeA i len l = (l.drop i).take len := by
  unfold takeA; split
  · rename_i h; obtain ⟨rfl, rfl⟩ := h; simp
  · rfl

def frzA (H : Nat → Option Blk) : Nat → AV → AV
  | 0, _ => .unk
  | d + 1, .ptr n i j => (match H n with | some k => (match k.l[i]? with | some ch => .rp (ch.map (frzA H d)) j | none => .unk) | none => .unk)
  | _ + 1, .sl n i len => (match H n with | some k => if i + len ≤ k.l.length then .ro k.e (takeA i len k.l) else .unk | none => .unk)
  | d + 1, .fn f c => .fn f (c.map (frzA H d))
  | d + 1, .g c => .g (c.map (frzA H d))
  | _ + 1, x => x

def dropN (ns : List Nat) (h : List (Nat × Blk)) : List (Nat × Blk) := h.filter fun p => !ns.contains p.1

section
variable {C : Ctx} {s : AState} {β : Bt} {a : Act} {w : World}

theorem mem_dropN {ns : List Nat} {h : List (Nat × Blk)} {p : Nat × Blk} : p ∈ dropN ns h ↔ p ∈ h ∧ p.1 ∉ ns := by
  simp [dropN, List.mem_filter]

theorem StR.drop (h : StR C s β a w) (ns : List Nat) : StR C { s with h := dropN ns s.h } β a w := by
  have hX : ∀ b, XOf C.F β (dropN ns s.h) b → XOf C.F β s.h b := fun b hb => by
    rcases hb with hb | ⟨p, hp, r⟩
    · exact .inl hb
    · exact .inr ⟨p, (mem_dropN.1 hp).1, r⟩
  have m : Mono (XOf C.F β s.h) β w (XOf C.F β (dropN ns s.h)) β w := ⟨fun b h1 h2 => absurd (hX b h1) h2, fun _ _ h => h, Nat.le_refl _, fun _ _ _ => rfl, fun _ _ _ h => h⟩
  refine ⟨h.defers, h.size, fun i => ?_, fun p hp => (h.own p (mem_dropN.1 hp).1).mono m (fun _ _ _ _ => rfl) (fun h => h), fun p hp => h.lt p (mem_dropN.1 hp).1, h.βlt, ?_,
    fun p hp q hq => h.inj p (mem_dropN.1 hp).1 q (mem_dropN.1 hq).1, fun p hp => h.mine p (mem_dropN.1 hp).1, h.fr, h.Flt, h.sv.mono m, h.yy⟩
  · exact (h.tm i).mono m
  · exact List.Nodup.sublist (List.Sublist.map _ List.filter_sublist) h.nd

theorem frzA_sound (h : StR C s β a w) (ns : List Nat) : ∀ (d : Nat) (x : AV) (u : Value), RS (XOf C.F β s.h) β w x u → (∀ n ∈ namesA (find s.h) d x, n ∈ ns) →
    RS (XOf C.F β (dropN ns s.h)) β w (frzA (find s.h) d x) u := by
  have hX : ∀ b, XOf C.F β (dropN ns s.h) b → XOf C.F β s.h b := fun b hb => by
    rcases hb with hb | ⟨p, hp, r⟩
    · exact .inl hb
    · exact .inr ⟨p, (mem_dropN.1 hp).1, r⟩
  have hout : ∀ n k b o e, find s.h n = some k → β n = some (b, o, e) → n ∈ ns → ¬ XOf C.F β (dropN ns s.h) b := by
    intro n k b o e hk hb hn hx
    rcases hx with hx | ⟨p, hp, o', e', hb'⟩
    · exact (h.mine _ (find_mem hk) b o e hb).2 hx
    · have := h.inj p (mem_dropN.1 hp).1 (n, k) (find_mem hk) b o' e' o e hb' hb
      exact (mem_dropN.1 hp).2 (this ▸ hn)
  intro d
  induction d with
  | zero => intro x u _ _; exact .unk _
  | succ d ih =>
    intro x u hx hns
    cases x with
    | ptr n i j =>
      simp only [frzA]
      cases hk : find s.h n with
      | none => exact .unk _
      | some k =>
        simp only
        cases hi : k.l[i]? with
        | none => exact .unk _
        | some ch =>
          simp only
          cases hx with
          | ptr hb =>
            rename_i b o e
            have hown := h.look n k hk
            rcases hown with ⟨b', o', c, t, h1, h2, h3, h4, h5⟩ | ⟨h1, h2⟩
            · rw [h1] at hb; cases hb
              have hch : ch.length = k.e := h3 ch (List.mem_of_getElem? hi)
              have hil : i < k.l.length := (List.getElem?_eq_some_iff.1 hi).1
              have hle : (i + 1) * k.e ≤ k.l.length * k.e := Nat.mul_le_mul_right _ hil
              rw [Nat.succ_mul] at hle
              have hnn : n ∈ ns := hns n (by simp [namesA])
              refine .rp (o := o + i * k.e) (fun q => c.getD (o + i * k.e + q) undef) (hout n k b o k.e hk h1 hnn) ⟨_, _, _, h2⟩ (fun q hq => ?_) (fun q s' hs => ?_)
              · have hlt : o + i * k.e + q < c.size := by simp at hq; omega
                simp [World.cell?, h2, hlt]
              · simp only [List.getElem?_map, Option.map_eq_some_iff] at hs
                obtain ⟨y, hy, rfl⟩ := hs
                obtain ⟨v, hv, hr⟩ := h5 i q ch y hi hy
                have : c.getD (o + i * k.e + q) undef = v := by
                  have hlt := (Array.getElem?_eq_some_iff.1 hv).1
                  simpa [Array.getD, hlt] using (Array.getElem?_eq_some_iff.1 hv).2
                rw [this]
                refine ih y v hr fun m hm => hns m ?_
                simp only [namesA, hk, hi, List.mem_cons, List.mem_flatMap]
                exact .inr ⟨y, List.mem_of_getElem? hy, hm⟩
            · rw [h1] at hi; simp at hi
    | sl n i len =>
      simp only [frzA, takeA_eq]
      cases hk : find s.h n with
      | none => exact .unk _
      | some k =>
        simp only
        split
        case isFalse => exact .unk _
        rename_i hle
        have hnn : n ∈ ns := hns n (by simp [namesA])
        have hlen : ((k.l.drop i).take len).length = len := by simp; omega
        cases hx with
        | slz => simp only [List.take_zero]; exact .ro0
        | sl hb hl hs hc =>
          rename_i cap b o e m t
          have hown := h.look n k hk
          rcases hown with ⟨b', o', c, t', h1, h2, h3, h4, h5⟩ | ⟨h1, h2⟩
          · rw [h1] at hb; cases hb
            conv => rhs; rw [← hlen]
            have hmul : (i + len) * k.e ≤ k.l.length * k.e := Nat.mul_le_mul_right _ hle
            rw [Nat.add_mul] at hmul
            refine .ro (fun q => c.getD (o + i * k.e + q) undef) (hout n k b o k.e hk h1 hnn) ⟨_, _, _, h2⟩ (by omega) (fun ch hch => h3 ch (List.mem_of_mem_drop (List.mem_of_mem_take hch))) (fun q hq => ?_) (fun i' j ch s' hi hj => ?_)
            · have hlt : o + i * k.e + q < c.size := by rw [hlen] at hq; omega
              simp [World.cell?, h2, hlt]
            · rw [List.getElem?_take] at hi
              split at hi
              case isFalse => cases hi
              rw [List.getElem?_drop] at hi
              obtain ⟨v, hv, hr⟩ := h5 (i + i') j ch s' hi hj
              rw [Nat.add_mul] at hv
              have he : o + (i * k.e + i' * k.e) + j = o + i * k.e + (i' * k.e + j) := by omega
              rw [he] at hv
              have : c.getD (o + i * k.e + (i' * k.e + j)) undef = v := by
                have hlt := (Array.getElem?_eq_some_iff.1 hv).1
                simpa [Array.getD, hlt] using (Array.getElem?_eq_some_iff.1 hv).2
              rw [this]
              exact hr.anti hX
          · rw [hb] at h2; cases h2
    | tb n T => simp only [frzA]; exact hx.anti hX
    | fn f c =>
      simp only [frzA]
      cases hx with
      | fn hl hR =>
        refine .fn (by simpa using hl) fun k s' u hs hu => ?_
        simp only [List.getElem?_map, Option.map_eq_some_iff] at hs
        obtain ⟨y, hy, rfl⟩ := hs
        refine ih y u (hR k y u hy hu) fun m hm => hns m ?_
        simp only [namesA, List.mem_flatMap]
        exact ⟨y, List.mem_of_getElem? hy, hm⟩
    | g c =>
      simp only [frzA]
      cases hx with
      | g hl hR =>
        refine .g (by simpa using hl) fun k s' u hs hu => ?_
        simp only [List.getElem?_map, Option.map_eq_some_iff] at hs
        obtain ⟨y, hy, rfl⟩ := hs
        refine ih y u (hR k y u hy hu) fun m hm => hns m ?_
        simp only [namesA, List.mem_flatMap]
        exact ⟨y, List.mem_of_getElem? hy, hm⟩
    | v y => exact hx.anti hX
    | rp c j => exact hx.anti hX
    | ro e l => exact hx.anti hX
    | t l => exact hx.anti hX
    | ez => exact hx.anti hX
    | unk => exact .unk _
end
end Go.Eng

set_option linter.unusedSimpArgs false
set_option linter.unusedVariables false
namespace Go.Eng
open Go Go.RowKit

def setN (h : List (Nat × Blk)) (n : Nat) (k : Blk) : List (Nat × Blk) := h.map fun p => if p.1 = n then (n, k) else p

section
variable {C : Ctx} {s : AState} {β : Bt} {a : Act} {w : World}

theorem setN_names (h : List (Nat × Blk)) (n : Nat) (k : Blk) : (setN h n k).map (·.1) = h.map (·.1) := by
  unfold setN
  rw [List.map_map]
  apply List.map_congr_left
  intro p _
  simp only [Function.comp]
  split
  · rename_i e; exact e.symm
  · rfl

theorem mem_setN {h : List (Nat × Blk)} {n : Nat} {k : Blk} {p : Nat × Blk} (hp : p ∈ setN h n k) : p ∈ h ∨ (p = (n, k) ∧ ∃ q ∈ h, q.1 = n) := by
  unfold setN at hp
  obtain ⟨q, hq, rfl⟩ := List.mem_map.1 hp
  split
  · rename_i e; exact .inr ⟨rfl, q, hq, e⟩
  · exact .inl hq

theorem XOf_setN {F : Nat → Prop} {h : List (Nat × Blk)} {n : Nat} {k : Blk} (b : Nat) : XOf F β (setN h n k) b ↔ XOf F β h b := by
  have e := setN_names h n k
  constructor
  · rintro (hb | ⟨p, hp, r⟩)
    · exact .inl hb
    · have : p.1 ∈ h.map (·.1) := by rw [← e]; exact List.mem_map_of_mem hp
      obtain ⟨q, hq, hqe⟩ := List.mem_map.1 this
      exact .inr ⟨q, hq, by rw [hqe]; exact r⟩
  · rintro (hb | ⟨p, hp, r⟩)
    · exact .inl hb
    · have : p.1 ∈ (setN h n k).map (·.1) := by rw [e]; exact List.mem_map_of_mem hp
      obtain ⟨q, hq, hqe⟩ := List.mem_map.1 this
      exact .inr ⟨q, hq, by rw [hqe]; exact r⟩

/-- A write into the own block n: the world turns in that block alone. -/
theorem StR.write (h : StR C s β a w) {n b o : Nat} {k k' : Blk} {c c' : Array Value} {t : TypeId} {w' : World} (hk : find s.h n = some k) (hb : β n = some (b, o, k'.e))
    (hc : w.heap[b]? = some (.cells c t (0, 0))) (hc' : w'.heap[b]? = some (.cells c' t (0, 0))) (hsz : c'.size = c.size) (hoth : ∀ q, q ≠ b → w'.heap[q]? = w.heap[q]?)
    (hz : w'.heap.size = w.heap.size) (h1 : w'.os = w.os) (h2 : w'.tape = w.tape) (h3 : w'.output = w.output)
    (hl : ∀ ch ∈ k'.l, ch.length = k'.e) (hle : o + k'.l.length * k'.e ≤ c'.size)
    (hR : ∀ (i j : Nat) (ch : List AV) (s' : AV), k'.l[i]? = some ch → ch[j]? = some s' → ∃ u, c'[o + i * k'.e + j]? = some u ∧ RS (XOf C.F β s.h) β w s' u) :
    StR C { s with h := setN s.h n k' } β a w' := by
  have hmem := find_mem hk
  have hXb : XOf C.F β s.h b := .inr ⟨(n, k), hmem, o, k'.e, hb⟩
  have hshape : ∀ q t' m, w.shape? q = some (t', m) → w'.shape? q = some (t', m) := by
    intro q t' m hq
    by_cases hqb : q = b
    · subst hqb
      simp only [World.shape?, hc, hc', hsz] at hq ⊢
      exact hq
    · rw [shape_of_heap (hoth q hqb)]; exact hq
  have m : Mono (XOf C.F β s.h) β w (XOf C.F β (setN s.h n k')) β w' :=
    ⟨fun q h1 h2 => absurd ((XOf_setN q).1 h1) h2, fun _ _ h => h, by omega, fun q hq hX => hoth q (fun e => hX (e ▸ hXb)), hshape⟩
  refine ⟨h.defers.keep fun D _ hD ho _ => hoth D (fun e => by subst e; rw [hc] at hD; cases hD; exact ho _ _ _ rfl), h.size, fun i => ?_, fun p hp => ?_, fun p hp => ?_, h.βlt, by rw [setN_names]; exact h.nd, fun p hp q hq b1 o1 e1 o2 e2 hb1 hb2 => ?_, fun p hp b1 o1 e1 hb1 => ?_, ?_, h.Flt, h.sv.mono m, h.yy⟩
  · exact (h.tm i).mono m
  · rcases mem_setN hp with hp' | ⟨rfl, _⟩
    · by_cases hpn : p.1 = n
      · -- an entry of that name is the new one
        unfold setN at hp
        obtain ⟨q, hq, he⟩ := List.mem_map.1 hp
        split at he
        · subst he
          exact .inl ⟨b, o, c', t, hb, hc', hl, hle, fun i j ch s' hi hj => by obtain ⟨u, hu, hr⟩ := hR i j ch s' hi hj; exact ⟨u, hu, hr.mono m⟩⟩
        · rename_i hqn; subst he; exact absurd hpn hqn
      · refine (h.own p hp').mono m (fun b1 o1 e1 hb1 => hoth b1 (fun e => hpn ?_)) (fun h => h)
        subst e
        exact h.inj p hp' (n, k) hmem b1 o1 e1 o k'.e hb1 hb
    · exact .inl ⟨b, o, c', t, hb, hc', hl, hle, fun i j ch s' hi hj => by obtain ⟨u, hu, hr⟩ := hR i j ch s' hi hj; exact ⟨u, hu, hr.mono m⟩⟩
  · have : p.1 ∈ s.h.map (·.1) := by rw [← setN_names s.h n k']; exact List.mem_map_of_mem hp
    obtain ⟨q, hq, hqe⟩ := List.mem_map.1 this
    rw [← hqe]; exact h.lt q hq
  · have hp2 : p.1 ∈ s.h.map (·.1) := by rw [← setN_names s.h n k']; exact List.mem_map_of_mem hp
    have hq2 : q.1 ∈ s.h.map (·.1) := by rw [← setN_names s.h n k']; exact List.mem_map_of_mem hq
    obtain ⟨p', hp', hpe⟩ := List.mem_map.1 hp2
    obtain ⟨q', hq', hqe⟩ := List.mem_map.1 hq2
    rw [← hpe, ← hqe]
    exact h.inj p' hp' q' hq' b1 o1 e1 o2 e2 (by rw [hpe]; exact hb1) (by rw [hqe]; exact hb2)
  · have hp2 : p.1 ∈ s.h.map (·.1) := by rw [← setN_names s.h n k']; exact List.mem_map_of_mem hp
    obtain ⟨p', hp', hpe⟩ := List.mem_map.1 hp2
    exact h.mine p' hp' b1 o1 e1 (by rw [hpe]; exact hb1)
  · have hmine := h.mine (n, k) hmem b o k'.e hb
    refine ⟨h1.trans h.fr.os, h2.trans h.fr.tape, h3.trans h.fr.output, by rw [hz]; exact h.fr.size, fun q hq hp => ?_, fun q t' m hs => hshape q t' m (h.fr.shape q t' m hs)⟩
    have hqb : q ≠ b := fun e => by
      subst e
      rcases hmine.1 with h' | h'
      · omega
      · exact hp h'
    rw [hoth q hqb]; exact h.fr.block q hq hp

def newCh (ch : List AV) (j : Nat) (l : List AV) : List AV := if l.length = ch.length then l else ch.take j ++ l ++ ch.drop (j + l.length)

def stK (P : Program) (ρ : Operand → AV) (H : Nat → Option Blk) (t : TypeId) (p x : Operand) (K : Nat → Blk → Prop) : Prop :=
  match ρ p, cellsA (ρ x) with
  | .ptr n i j, some l =>
    (match H n with
     | some k => ∃ ch, k.l[i]? = some ch ∧ (0 < szT P t ∧ l.length = szT P t ∧ j + l.length ≤ ch.length ∧ l.all oneA = true) ∧ K n ⟨k.e, k.l.set i (newCh ch j l)⟩
     | none => False)
  | _, _ => False

theorem stK_sound (h : StR C s β a w) {o : Oper} {t : TypeId} {p x : Operand} (ho : o.op = .store t p x) {K : Nat → Blk → Prop} (hs : stK C.P (evA s.t) (find s.h) t p x K) :
    ∃ n k w', K n k ∧ (execOp a.eval o).run C.P w = .ok .skip w' ∧ StR C { s with h := setN s.h n k } β a w' := by
  unfold stK at hs
  split at hs
  case h_2 => exact hs.elim
  rename_i n i j l hp hx
  split at hs
  case h_2 => exact hs.elim
  rename_i k hk
  obtain ⟨ch, hi, ⟨hz, hlz, hjl, hall⟩, hK⟩ := hs
  have hpv := h.read p
  have hxv := h.read x
  rw [hp] at hpv
  generalize hv : a.eval p = va at hpv
  cases hpv with
  | ptr hb =>
    rename_i b o' e
    rcases h.look n k hk with ⟨b', o'', c, t', h1, h2, h3, h4, h5⟩ | ⟨h1, h2⟩
    · rw [h1] at hb; cases hb
      obtain ⟨hcl, hcR⟩ := hxv.cells hx
      have hch : ch.length = k.e := h3 ch (List.mem_of_getElem? hi)
      have hil : i < k.l.length := (List.getElem?_eq_some_iff.1 hi).1
      have hle : (i + 1) * k.e ≤ k.l.length * k.e := Nat.mul_le_mul_right _ hil
      rw [Nat.succ_mul] at hle
      have hone : ∀ v ∈ (a.eval x).cells.toList, v.oneCell' = true := by
        intro v hv'
        obtain ⟨q, hq⟩ := List.getElem?_of_mem hv'
        rw [Array.getElem?_toList] at hq
        have hql : q < l.length := by have := (Array.getElem?_eq_some_iff.1 hq).1; omega
        have hlq : l[q]? = some l[q] := List.getElem?_eq_getElem hql
        exact (hcR q _ v hlq hq).one (List.all_eq_true.1 hall _ (List.getElem_mem hql))
      have hst := run_storeCells_at C.P b (o' + i * k.e + j) t' (a.eval x).cells.toList 0 c w h2 (by simp; omega) hone
      have hrun : (execOp a.eval o).run C.P w = .ok .skip (w.setRow b (c.toList.take (o' + i * k.e + j + 0) ++ (a.eval x).cells.toList ++ c.toList.drop (o' + i * k.e + j + 0 + (a.eval x).cells.toList.length)).toArray) := by
        have hszx : ¬ (a.eval x).cells.size ≠ szT C.P t := by omega
        obtain ⟨_, op, _, _, _, _⟩ := o
        simp only at ho; subst ho
        simp only [execOp, Instr.storeAt, hv, Instr.sureAddr, Sem.run_bind, Sem.run_pure, Result.andThen_ok, storeVar, run_sizeOf' hz, if_neg hszx, hst]
      refine ⟨n, _, _, hK, hrun, h.write (c' := (c.toList.take (o' + i * k.e + j + 0) ++ (a.eval x).cells.toList ++ c.toList.drop (o' + i * k.e + j + 0 + (a.eval x).cells.toList.length)).toArray) hk (k' := ⟨k.e, _⟩) h1 h2 (setRow_heap w b c _ t' _ h2) ?_ (fun q hq => setRow_other w b q _ hq) (setRow_size _ _ _) rfl rfl rfl ?_ ?_ ?_⟩
      · simp; omega
      · intro ch' hch'
        rcases List.mem_or_eq_of_mem_set hch' with hm | rfl
        · exact h3 _ hm
        · show (newCh ch j l).length = k.e
          unfold newCh; split
          · omega
          · simp; omega
      · simp; omega
      · intro i' j' ch' s' hi' hj'
        dsimp only at hi' ⊢
        rw [List.getElem?_set] at hi'
        have hget : ∀ q, q < c.size → (c.toList.take (o' + i * k.e + j + 0) ++ (a.eval x).cells.toList ++ c.toList.drop (o' + i * k.e + j + 0 + (a.eval x).cells.toList.length)).toArray[q]? =
            if o' + i * k.e + j ≤ q ∧ q < o' + i * k.e + j + l.length then (a.eval x).cells[q - (o' + i * k.e + j)]? else c[q]? := by
          intro q hq
          simp only [List.getElem?_toArray, Nat.add_zero, List.append_assoc]
          have hpos : o' + i * k.e + j ≤ c.toList.length := by simp; omega
          by_cases q1 : q < o' + i * k.e + j
          · rw [List.getElem?_append_left (by simp; omega), List.getElem?_take_of_lt q1, if_neg (by omega)]; simp
          · rw [List.getElem?_append_right (by simp; omega)]
            simp only [List.length_take, Nat.min_eq_left hpos]
            by_cases q2 : q < o' + i * k.e + j + l.length
            · rw [List.getElem?_append_left (by simp; omega), if_pos ⟨by omega, q2⟩]; simp
            · rw [List.getElem?_append_right (by simp; omega), if_neg (by omega)]
              simp only [List.getElem?_drop, Array.length_toList, Array.getElem?_toList]
              congr 1; omega
        split at hi'
        · rename_i hii; subst hii
          (try rw [if_pos hil] at hi'); cases hi'
          have hj'l : j' < k.e := by
            have := (List.getElem?_eq_some_iff.1 hj').1
            unfold newCh at this; split at this
            · omega
            · simp at this; omega
          rw [hget _ (by omega)]
          unfold newCh at hj'
          split at hj'
          · rename_i hle'
            have hj0 : j = 0 := by omega
            subst hj0
            rw [if_pos ⟨by omega, by omega⟩]
            have hq : o' + i * k.e + j' - (o' + i * k.e + 0) = j' := by omega
            rw [hq]
            have hlt : j' < (a.eval x).cells.size := by omega
            exact ⟨_, Array.getElem?_eq_getElem hlt, hcR j' s' _ hj' (Array.getElem?_eq_getElem hlt)⟩
          · rw [List.append_assoc] at hj'
            by_cases q1 : j' < j
            · rw [List.getElem?_append_left (by simp; omega), List.getElem?_take_of_lt q1] at hj'
              rw [if_neg (by omega)]
              exact h5 i j' ch s' hi hj'
            · rw [List.getElem?_append_right (by simp; omega)] at hj'
              simp only [List.length_take, Nat.min_eq_left (by omega : j ≤ ch.length)] at hj'
              by_cases q2 : j' - j < l.length
              · rw [List.getElem?_append_left q2] at hj'
                rw [if_pos ⟨by omega, by omega⟩]
                have hq : o' + i * k.e + j' - (o' + i * k.e + j) = j' - j := by omega
                rw [hq]
                have hlt : j' - j < (a.eval x).cells.size := by omega
                exact ⟨_, Array.getElem?_eq_getElem hlt, hcR _ s' _ hj' (Array.getElem?_eq_getElem hlt)⟩
              · rw [List.getElem?_append_right (by omega), List.getElem?_drop] at hj'
                rw [if_neg (by omega)]
                have hq : j + l.length + (j' - j - l.length) = j' := by omega
                rw [hq] at hj'
                exact h5 i j' ch s' hi hj'
        · rename_i hii
          have hch' : ch'.length = k.e := h3 ch' (List.mem_of_getElem? hi')
          have hj'l : j' < k.e := by have := (List.getElem?_eq_some_iff.1 hj').1; omega
          have hil' : i' < k.l.length := (List.getElem?_eq_some_iff.1 hi').1
          have hle' : (i' + 1) * k.e ≤ k.l.length * k.e := Nat.mul_le_mul_right _ hil'
          rw [Nat.succ_mul] at hle'
          rw [hget _ (by omega)]
          have hdis : ¬ (o' + i * k.e + j ≤ o' + i' * k.e + j' ∧ o' + i' * k.e + j' < o' + i * k.e + j + l.length) := by
            rintro ⟨q1, q2⟩
            rcases Nat.lt_or_gt_of_ne hii with hlt | hgt
            · have : (i + 1) * k.e ≤ i' * k.e := Nat.mul_le_mul_right _ hlt
              rw [Nat.succ_mul] at this; omega
            · have : (i' + 1) * k.e ≤ i * k.e := Nat.mul_le_mul_right _ hgt
              rw [Nat.succ_mul] at this; omega
          rw [if_neg hdis]
          exact h5 i' j' ch' s' hi' hj'
    · rw [h1] at hi; simp at hi
end
end Go.Eng

set_option linter.unusedSimpArgs false
set_option linter.unusedVariables false
namespace Go.Eng
open Go Go.RowKit

def srcK (H : Nat → Option Blk) (z : Nat) (x : AV) (K : List (List AV) → Prop) : Prop :=
  match x with
  | .ro e l => e = z ∧ K l
  | .ez => K []
  | .sl n i len => (match H n with | some k => k.e = z ∧ i + len ≤ k.l.length ∧ K (takeA i len k.l) | none => False)
  | .v (.slice none 0 0) => K []
  | .v (.string s) => z = 1 ∧ K (s.data.toList.map fun b => [.v (.int .u8 b.toNat)])
  | _ => False

def dstK (H : Nat → Option Blk) (z : Nat) (x : AV) (K : List Nat → List (List AV) → Prop) : Prop :=
  match x with
  | .sl n i len => (match H n with | some k => k.e = z ∧ i + len ≤ k.l.length ∧ K [n] (takeA i len k.l) | none => False)
  | .v (.slice none 0 0) => K [] []
  | .ez => K [] []
  | _ => False

/-- append: the names that are used up, the new contents. -/
def apK (P : Program) (ρ : Operand → AV) (H : Nat → Option Blk) (xs : List Operand) (ts : List TypeId) (K : List Nat → Nat → List (List AV) → Prop) : Prop :=
  match xs, ts with
  | [s, x], [t, t2] =>
    (match slT P t, ikT P t2 with
     | some e, none =>
       (0 < szT P e ∧ byT P e ≤ 256 ∧ (match zeT P e with | some z => z.length = szT P e | none => False)) ∧ (P.underlying t2).isSome = true ∧
       dstK H (szT P e) (ρ s) fun ns d => srcK H (szT P e) (ρ x) fun n => d.length + n.length ≤ 274877906944 ∧ (∀ c ∈ n, ∀ s ∈ c, oneA s = true) ∧ K ns (szT P e) (d ++ n)
     | _, _ => False)
  | _, _ => False

section
variable {C : Ctx} {s : AState} {β : Bt} {a : Act} {w : World}

/-- What loading a row of cells off a slice gives. -/
def Row (X : Nat → Prop) (β : Bt) (w : World) (z : Nat) (l : List (List AV)) (cs : Array Value) : Prop :=
  (∀ c ∈ l, c.length = z) ∧ cs.size = l.length * z ∧ ∀ (i j : Nat) (c : List AV) (s : AV), l[i]? = some c → c[j]? = some s → ∃ u, cs[i * z + j]? = some u ∧ RS X β w s u

theorem Row.get {X : Nat → Prop} {β : Bt} {w : World} {z : Nat} {l : List (List AV)} {cs : Array Value} (h : Row X β w z l cs) (q : Nat) (u : Value) (hq : cs[q]? = some u) (hz : 0 < z) :
    ∃ c s, l[q / z]? = some c ∧ c[q % z]? = some s ∧ RS X β w s u := by
  have hlt : q < l.length * z := by have := (Array.getElem?_eq_some_iff.1 hq).1; rw [h.2.1] at this; exact this
  have h1 : q / z < l.length := (Nat.div_lt_iff_lt_mul hz).2 hlt
  have h2 : l[q / z].length = z := h.1 _ (List.getElem_mem h1)
  have h3 : q % z < l[q / z].length := by rw [h2]; exact Nat.mod_lt _ hz
  obtain ⟨u', hu', hr⟩ := h.2.2 (q / z) (q % z) _ _ (List.getElem?_eq_getElem h1) (List.getElem?_eq_getElem h3)
  rw [Nat.div_add_mod' q z] at hu'
  rw [hq] at hu'; cases hu'
  exact ⟨_, _, List.getElem?_eq_getElem h1, List.getElem?_eq_getElem h3, hr⟩

theorem run_firstCells {P : Program} {z m b o : Nat} {c cap : Nat} (u : Nat → Value) (hu : ∀ q, q < m * z → w.cell? ⟨b, o + q, none⟩ = some (u q)) :
    (Builtin.firstCells z m (.slice (some ⟨b, o, none⟩) c cap)).run P w = .ok ((List.range (m * z)).map u).toArray w := by
  simp only [Builtin.firstCells]
  exact run_loadCells w _ _ u fun j hj => by rw [addr_add]; exact hu j hj

theorem own_row (h : StR C s β a w) {n i len : Nat} {k : Blk} (hk : find s.h n = some k) (hle : i + len ≤ k.l.length) {b o e : Nat} (hb : β n = some (b, o, e)) :
    ∃ u : Nat → Value, (∀ q, q < len * k.e → w.cell? ⟨b, o + i * k.e + q, none⟩ = some (u q)) ∧ Row (XOf C.F β s.h) β w k.e (takeA i len k.l) ((List.range (len * k.e)).map u).toArray := by
  rcases h.look n k hk with ⟨b', o', c, t', h1, h2, h3, h4, h5⟩ | ⟨h1, h2⟩
  · rw [h1] at hb; cases hb
    have hmul : (i + len) * k.e ≤ k.l.length * k.e := Nat.mul_le_mul_right _ hle
    rw [Nat.add_mul] at hmul
    refine ⟨fun q => c.getD (o + i * k.e + q) undef, fun q hq => ?_, fun ch hch => ?_, ?_, fun i' j ch s' hi hj => ?_⟩
    · have hlt : o + i * k.e + q < c.size := by omega
      simp [World.cell?, h2, hlt]
    · rw [takeA_eq] at hch; exact h3 ch (List.mem_of_mem_drop (List.mem_of_mem_take hch))
    · rw [takeA_eq]; simp; rw [Nat.min_eq_left (by omega)]
    · rw [takeA_eq, List.getElem?_take] at hi
      split at hi
      case isFalse => cases hi
      rename_i hil
      rw [List.getElem?_drop] at hi
      obtain ⟨v, hv, hr⟩ := h5 (i + i') j ch s' hi hj
      have hch := h3 ch (List.mem_of_getElem? hi)
      have hj' := (List.getElem?_eq_some_iff.1 hj).1
      have hm2 : (i' + 1) * k.e ≤ len * k.e := Nat.mul_le_mul_right _ hil
      rw [Nat.succ_mul] at hm2
      refine ⟨v, ?_, hr⟩
      simp only [List.getElem?_toArray, List.getElem?_map]
      rw [List.getElem?_range (by omega)]
      simp only [Option.map_some, Option.some.injEq]
      rw [Nat.add_mul] at hv
      have he : o + (i * k.e + i' * k.e) + j = o + i * k.e + (i' * k.e + j) := by omega
      rw [he] at hv
      have hlt := (Array.getElem?_eq_some_iff.1 hv).1
      simpa [Array.getD, hlt] using (Array.getElem?_eq_some_iff.1 hv).2
  · rw [hb] at h2; cases h2

theorem Row.nil {X : Nat → Prop} {z : Nat} : Row X β w z [] #[] := ⟨fun _ h => absurd h (by simp), by simp, fun i j c s hi => by simp at hi⟩

theorem srcK_sound (h : StR C s β a w) {z : Nat} {x : AV} {v : Value} {K : List (List AV) → Prop} (hx : RS (XOf C.F β s.h) β w x v) (hs : srcK (find s.h) z x K) :
    ∃ l cs, K l ∧ (Builtin.lenOf v).run C.P w = .ok l.length w ∧ (∀ w', w'.heap = w.heap → (Builtin.firstCells z l.length v).run C.P w' = .ok cs w') ∧ Row (XOf C.F β s.h) β w z l cs := by
  unfold srcK at hs
  split at hs
  · rename_i e l
    obtain ⟨rfl, hK⟩ := hs
    cases hx with
    | ro0 =>
      rename_i cap ad
      refine ⟨[], #[], hK, by simp [Builtin.lenOf], fun w' _ => ?_, .nil⟩
      cases ad <;> simp [Builtin.firstCells, loadCells, loadCellsFrom]
    | ro u hX hb hl hd hu hR =>
      rename_i b o cap
      refine ⟨l, _, hK, by simp [Builtin.lenOf], fun w' hw => run_firstCells (w := w') u fun q hq => by rw [cell_of_heap (w := w) (by rw [hw])]; exact hu q hq, hd, by simp, fun i j c s' hi hj => ?_⟩
      have hc := hd c (List.mem_of_getElem? hi)
      have hj' := (List.getElem?_eq_some_iff.1 hj).1
      have hi' := (List.getElem?_eq_some_iff.1 hi).1
      have hm2 : (i + 1) * e ≤ l.length * e := Nat.mul_le_mul_right _ hi'
      rw [Nat.succ_mul] at hm2
      refine ⟨u (i * e + j), ?_, hR i j c s' hi hj⟩
      simp only [List.getElem?_toArray, List.getElem?_map]
      rw [List.getElem?_range (by omega)]; rfl
  · cases hx
    rename_i ad
    exact ⟨[], #[], hs, by simp [Builtin.lenOf], fun w' _ => by cases ad <;> simp [Builtin.firstCells, loadCells, loadCellsFrom], .nil⟩
  · rename_i n i len
    split at hs
    case h_2 => exact hs.elim
    rename_i k hk
    obtain ⟨rfl, hle, hK⟩ := hs
    have hlen : (takeA i len k.l).length = len := by rw [takeA_eq]; simp; omega
    cases hx with
    | slz =>
      rename_i ad
      have h0 : takeA i 0 k.l = [] := List.eq_nil_of_length_eq_zero hlen
      rw [h0] at hK
      refine ⟨[], #[], hK, by simp [Builtin.lenOf], fun w' _ => ?_, .nil⟩
      cases ad <;> simp [Builtin.firstCells, loadCells, loadCellsFrom]
    | sl hb hl hsh hc =>
      rename_i cap b o e m t
      have he := own_e hb (h.look n k hk)
      obtain ⟨u, hu, hrow⟩ := own_row h hk hle hb
      refine ⟨_, _, hK, by simp [Builtin.lenOf, hlen], fun w' hw => ?_, hrow⟩
      rw [hlen, he]
      exact run_firstCells (w := w') u fun q hq => by rw [cell_of_heap (w := w) (by rw [hw])]; exact hu q hq
  · cases hx
    exact ⟨[], #[], hs, by simp [Builtin.lenOf], fun w' _ => by simp [Builtin.firstCells], .nil⟩
  · rename_i str
    obtain ⟨rfl, hK⟩ := hs
    cases hx
    refine ⟨_, str.data.map fun b => .int .u8 b.toNat, hK, ?_, fun w' _ => ?_, ?_, ?_, ?_⟩
    · simp only [Builtin.lenOf, Sem.run_pure, List.length_map, Array.length_toList]; rfl
    · simp only [Builtin.firstCells, List.length_map, Array.length_toList, Sem.run_pure]
      congr 2
      have : str.extract 0 str.data.size = str := by
        apply ByteArray.ext
        simp [ByteArray.data_extract]
      rw [this]
    · intro c hc; simp only [List.mem_map] at hc; obtain ⟨b, _, rfl⟩ := hc; rfl
    · simp
    · intro i j c s' hi hj
      simp only [List.getElem?_map, Option.map_eq_some_iff, Array.getElem?_toList] at hi
      obtain ⟨b, hb, rfl⟩ := hi
      match j with
      | 0 => simp at hj; subst hj; exact ⟨_, by simp [hb], .v _⟩
      | j + 1 => simp at hj
  · exact hs.elim

/-- A name for an empty slice without an array. -/
theorem StR.addNil (h : StR C s β a w) (z : Nat) : StR C (pushA s ⟨z, []⟩) β a w := by
  have hX : ∀ b, XOf C.F β (pushA s ⟨z, []⟩).h b → XOf C.F β s.h b := by
    rintro b (hb | ⟨p, hp, o, e, hb⟩)
    · exact .inl hb
    · simp only [pushA, List.mem_cons] at hp
      rcases hp with rfl | hp
      · exact absurd (h.βlt _ _ hb) (Nat.lt_irrefl _)
      · exact .inr ⟨p, hp, o, e, hb⟩
  have hnone : β s.k = none := by
    cases hb : β s.k with
    | none => rfl
    | some r => exact absurd (h.βlt _ _ hb) (Nat.lt_irrefl _)
  have m : Mono (XOf C.F β s.h) β w (XOf C.F β (pushA s ⟨z, []⟩).h) β w := ⟨fun b h1 h2 => absurd (hX b h1) h2, fun _ _ h => h, Nat.le_refl _, fun _ _ _ => rfl, fun _ _ _ h => h⟩
  refine ⟨h.defers, h.size, fun i => ?_, fun p hp => ?_, fun p hp => ?_, fun n r hr => Nat.lt_succ_of_lt (h.βlt n r hr), ?_, ?_, ?_, h.fr, h.Flt, h.sv.mono m, h.yy⟩
  · exact (h.tm i).mono m
  · simp only [pushA, List.mem_cons] at hp
    rcases hp with rfl | hp
    · exact .inr ⟨rfl, hnone⟩
    · exact (h.own p hp).mono m (fun _ _ _ _ => rfl) (fun h => h)
  · simp only [pushA, List.mem_cons] at hp ⊢
    rcases hp with rfl | hp
    · exact Nat.lt_succ_self _
    · exact Nat.lt_succ_of_lt (h.lt p hp)
  · simp only [pushA, List.map_cons, List.nodup_cons]
    refine ⟨fun hm => ?_, h.nd⟩
    obtain ⟨p, hp, he⟩ := List.mem_map.1 hm
    have := h.lt p hp
    omega
  · intro p hp q hq b o e o' e' h1 h2
    simp only [pushA, List.mem_cons] at hp hq
    rcases hp with rfl | hp
    · rw [hnone] at h1; cases h1
    · rcases hq with rfl | hq
      · rw [hnone] at h2; cases h2
      · exact h.inj p hp q hq b o e o' e' h1 h2
  · intro p hp b o e hb
    simp only [pushA, List.mem_cons] at hp
    rcases hp with rfl | hp
    · rw [hnone] at hb; cases hb
    · exact h.mine p hp b o e hb

/-- The own block n is written, and goes by the next name from here on. -/
theorem StR.rename (h : StR C s β a w) {n b o o' : Nat} {k k' : Blk} {e : Nat} {c c' : Array Value} {t : TypeId} {w' : World} (hk : find s.h n = some k) (hb : β n = some (b, o, e))
    (hc : w.heap[b]? = some (.cells c t (0, 0))) (hc' : w'.heap[b]? = some (.cells c' t (0, 0))) (hsz : c'.size = c.size) (hoth : ∀ q, q ≠ b → w'.heap[q]? = w.heap[q]?)
    (hz : w'.heap.size = w.heap.size) (h1 : w'.os = w.os) (h2 : w'.tape = w.tape) (h3 : w'.output = w.output)
    (hl : ∀ ch ∈ k'.l, ch.length = k'.e) (hle : o' + k'.l.length * k'.e ≤ c'.size)
    (hR : ∀ (i j : Nat) (ch : List AV) (s' : AV), k'.l[i]? = some ch → ch[j]? = some s' → ∃ u, c'[o' + i * k'.e + j]? = some u ∧ RS (XOf C.F β s.h) β w s' u) :
    StR C (pushA { s with h := dropN [n] s.h } k') (updB β s.k (b, o', k'.e)) a w' := by
  have hmem := find_mem hk
  have hXb : XOf C.F β s.h b := .inr ⟨(n, k), hmem, o, e, hb⟩
  have hfresh : β s.k = none := by
    cases hb : β s.k with
    | none => rfl
    | some r => exact absurd (h.βlt _ _ hb) (Nat.lt_irrefl _)
  have hup : ∀ p ∈ s.h, updB β s.k (b, o', k'.e) p.1 = β p.1 := fun p hp => by
    have := h.lt p hp
    simp [updB]; omega
  have hnb : ∀ p ∈ dropN [n] s.h, ∀ o1 e1, β p.1 ≠ some (b, o1, e1) := fun p hp o1 e1 hb1 => by
    have hp' := mem_dropN.1 hp
    have := h.inj p hp'.1 (n, k) hmem b o1 e1 o e hb1 hb
    exact hp'.2 (by simp [this])
  have hshape : ∀ q t' m, w.shape? q = some (t', m) → w'.shape? q = some (t', m) := by
    intro q t' m hq
    by_cases hqb : q = b
    · subst hqb
      simp only [World.shape?, hc, hc', hsz] at hq ⊢
      exact hq
    · rw [shape_of_heap (hoth q hqb)]; exact hq
  have m : Mono (XOf C.F β s.h) β w (XOf C.F (updB β s.k (b, o', k'.e)) (pushA { s with h := dropN [n] s.h } k').h) (updB β s.k (b, o', k'.e)) w' := by
    refine ⟨?_, fun q r hr => ?_, by omega, fun q hq hX => hoth q (fun e => hX (e ▸ hXb)), hshape⟩
    · rintro q (hq | ⟨p, hp, o1, e1, hq⟩) hn
      · exact absurd (.inl hq) hn
      · simp only [pushA, List.mem_cons] at hp
        rcases hp with rfl | hp
        · simp [updB] at hq
          obtain ⟨rfl, _⟩ := hq
          exact absurd hXb hn
        · have hp' := mem_dropN.1 hp
          rw [hup p hp'.1] at hq
          exact absurd (.inr ⟨p, hp'.1, o1, e1, hq⟩) hn
    · unfold updB; split
      · rename_i hn; subst hn; rw [hfresh] at hr; cases hr
      · exact hr
  have hmine := h.mine (n, k) hmem b o e hb
  refine ⟨h.defers.keep fun D _ hD ho _ => hoth D (fun e => by subst e; rw [hc] at hD; cases hD; exact ho _ _ _ rfl), h.size, fun i => ?_, fun p hp => ?_, fun p hp => ?_, fun q r hr => ?_, ?_, ?_, ?_, ?_, h.Flt, h.sv.mono m, h.yy⟩
  · exact (h.tm i).mono m
  · simp only [pushA, List.mem_cons] at hp
    rcases hp with rfl | hp
    · exact .inl ⟨b, o', c', t, by simp [updB], hc', hl, hle, fun i j ch s' hi hj => by obtain ⟨u, hu, hr⟩ := hR i j ch s' hi hj; exact ⟨u, hu, hr.mono m⟩⟩
    · have hp' := mem_dropN.1 hp
      exact (h.own p hp'.1).mono m (fun b1 o1 e1 hb1 => hoth b1 (fun e => hnb p hp o1 e1 (e ▸ hb1))) (fun hn => by rw [hup p hp'.1]; exact hn)
  · simp only [pushA, List.mem_cons] at hp ⊢
    rcases hp with rfl | hp
    · exact Nat.lt_succ_self _
    · exact Nat.lt_succ_of_lt (h.lt p (mem_dropN.1 hp).1)
  · unfold updB at hr; simp only [pushA]
    split at hr
    · rename_i hn; subst hn; exact Nat.lt_succ_self _
    · exact Nat.lt_succ_of_lt (h.βlt _ _ hr)
  · simp only [pushA, List.map_cons, List.nodup_cons]
    refine ⟨fun hm => ?_, List.Nodup.sublist (List.Sublist.map _ List.filter_sublist) h.nd⟩
    obtain ⟨p, hp, he⟩ := List.mem_map.1 hm
    have := h.lt p (mem_dropN.1 hp).1
    omega
  · intro p hp q hq b1 o1 e1 o2 e2 hb1 hb2
    simp only [pushA, List.mem_cons] at hp hq
    rcases hp with rfl | hp <;> rcases hq with rfl | hq
    · rfl
    · rw [hup q (mem_dropN.1 hq).1] at hb2
      simp [updB] at hb1
      exact absurd (hb1.1 ▸ hb2) (hnb q hq o2 e2)
    · rw [hup p (mem_dropN.1 hp).1] at hb1
      simp [updB] at hb2
      exact absurd (hb2.1 ▸ hb1) (hnb p hp o1 e1)
    · rw [hup p (mem_dropN.1 hp).1] at hb1; rw [hup q (mem_dropN.1 hq).1] at hb2
      exact h.inj p (mem_dropN.1 hp).1 q (mem_dropN.1 hq).1 b1 o1 e1 o2 e2 hb1 hb2
  · intro p hp b1 o1 e1 hb1
    simp only [pushA, List.mem_cons] at hp
    rcases hp with rfl | hp
    · simp [updB] at hb1
      rw [← hb1.1]; exact hmine
    · rw [hup p (mem_dropN.1 hp).1] at hb1; exact h.mine p (mem_dropN.1 hp).1 b1 o1 e1 hb1
  · refine ⟨h1.trans h.fr.os, h2.trans h.fr.tape, h3.trans h.fr.output, by rw [hz]; exact h.fr.size, fun q hq hp => ?_, fun q t' m hs => hshape q t' m (h.fr.shape q t' m hs)⟩
    have hqb : q ≠ b := fun e => by
      subst e
      rcases hmine.1 with h' | h'
      · omega
      · exact hp h'
    rw [hoth q hqb]; exact h.fr.block q hq hp
end
end Go.Eng

set_option linter.unusedSimpArgs false
set_option linter.unusedVariables false
namespace Go.Eng
open Go Go.RowKit

theorem growBy_le (n : Nat) : ∀ (r c : Nat), c ≤ n → Builtin.growBy n r c ≤ n + (n + 768) / 4
  | 0, c, h => by simp only [Builtin.growBy]; omega
  | r + 1, c, h => by
    simp only [Builtin.growBy]
    split
    · omega
    · by_cases h' : c + (c + 768) / 4 ≤ n
      · exact growBy_le n r _ h'
      · cases r with
        | zero => simp only [Builtin.growBy]; omega
        | succ r => simp only [Builtin.growBy]; rw [if_pos (by omega)]; omega

theorem next_le (n c : Nat) (h : c < n) : Builtin.nextslicecap n c ≤ 2 * n + 192 := by
  unfold Builtin.nextslicecap
  split
  · omega
  · split
    · omega
    · have := growBy_le n 4 c (by omega); omega

section
variable {P : Program} {w : World}

theorem int_no {d : TypeDesc} {t : TypeId} (h : ikT P t = none) (hu : P.underlying t = some d) : ((some d : Option TypeDesc) matches some (.int _)) = false ∧ (match d with | .int _ => true | _ => false) = false := by
  unfold ikT at h
  rw [hu] at h
  cases d <;> simp_all

theorem run_append_in {sT e xT ty : TypeId} {d : TypeDesc} (hu : P.underlying sT = some (.slice e)) (hx : P.underlying xT = some d) (hni : ikT P xT = none) (hz : 0 < szT P e)
    {base : Option Addr} {len cap m : Nat} {x : Value} {cs : Array Value} (hlen : (Builtin.lenOf x).run P w = .ok m w) (hneed : len + m ≤ cap) (hfc : (Builtin.firstCells (szT P e) m x).run P w = .ok cs w)
    {w' : World} (hst : (match base with | some a => (storeCells (a.add (len * szT P e)) cs.toList).run P w | none => .ok () w) = .ok () w') :
    (Builtin.append_ #[sT, xT] ty #[.slice base len cap, x]).run P w = .ok (.slice base (len + m) cap) w' := by
  have hd := (int_no hni hx).2
  cases base with
  | none =>
    simp only at hst; cases hst
    simp only [Builtin.append_, List.getElem?_toArray, List.getElem?_cons_zero, List.getElem?_cons_succ, Sem.run_bind, run_underlying hu, run_underlying hx, Result.andThen_ok, Sem.run_pure, run_sizeOf' hz]
    cases d <;> first
      | (simp at hd; done)
      | (simp only [Sem.run_bind, Sem.run_pure, Bool.false_eq_true, if_false, hlen, Result.andThen_ok, Sem.run_ite, if_pos hneed, Bool.not_false, if_true, hfc])
  | some a =>
    simp only at hst
    simp only [Builtin.append_, List.getElem?_toArray, List.getElem?_cons_zero, List.getElem?_cons_succ, Sem.run_bind, run_underlying hu, run_underlying hx, Result.andThen_ok, Sem.run_pure, run_sizeOf' hz]
    cases d <;> first
      | (simp at hd; done)
      | (simp only [Sem.run_bind, Sem.run_pure, Bool.false_eq_true, if_false, hlen, Result.andThen_ok, Sem.run_ite, if_pos hneed, Bool.not_false, if_true, hfc, hst])

theorem run_append_out {sT e xT ty : TypeId} {d : TypeDesc} (hu : P.underlying sT = some (.slice e)) (hx : P.underlying xT = some d) (hni : ikT P xT = none) (hz : 0 < szT P e) (hby : byT P e ≤ 256)
    {zl : List Value} (hzl : zeT P e = some zl) (hzs : zl.length = szT P e)
    {base : Option Addr} {len cap m : Nat} {x : Value} {old cs : Array Value} (hlen : (Builtin.lenOf x).run P w = .ok m w) (hneed : cap < len + m) (hbig : len + m ≤ 274877906944)
    (hold : ∀ w', w'.heap = w.heap → (Builtin.firstCells (szT P e) len (.slice base len cap)).run P w' = .ok old w') (hfc : ∀ w', w'.heap = w.heap → (Builtin.firstCells (szT P e) m x).run P w' = .ok cs w') :
    ∃ nc rest w1, len + m ≤ nc ∧ rest.size = (nc - (len + m)) * szT P e ∧ w1.os = w.os ∧ w1.tape = w.tape ∧ w1.output = w.output ∧ w1.heap = w.heap.push (.cells (old ++ cs ++ rest) e (0, 0)) ∧
      (Builtin.append_ #[sT, xT] ty #[.slice base len cap, x]).run P w = .ok (.slice (some ⟨w.heap.size, 0, none⟩) (len + m) nc) w1 := by
  have hd := (int_no hni hx).2
  obtain ⟨ti, hti, hsz⟩ : ∃ ti, P.info? e = some ti ∧ ti.bytes = byT P e := by
    unfold szT at hz; unfold byT
    cases hi : P.info? e with
    | none => simp [hi] at hz
    | some ti => exact ⟨ti, rfl, by simp⟩
  have hti' : ∀ w', (typeInfo e).run P w' = .ok ti w' := fun w' => by simp [typeInfo, hti]
  have hmax : IntKind.i64.max = 9223372036854775807 := rfl
  have hn1 : ¬ (((len + m : Nat) : Int) > IntKind.i64.max ∧ (False ∨ ti.bytes = 0)) := by rw [hmax]; omega
  have hnx := next_le (len + m) cap hneed
  have hn2 : ¬ Builtin.nextslicecap (len + m) cap * ti.bytes > 2 ^ 48 := by
    have : Builtin.nextslicecap (len + m) cap * ti.bytes ≤ (2 * (len + m) + 192) * 256 := Nat.mul_le_mul hnx (by omega)
    omega
  have hn3 : ¬ (len + m ≤ cap) := by omega
  refine ⟨len + m + w.tape w.drawn (.appendCap (len + m) cap e) % (2 ^ 63 - (len + m)), Builtin.zeroCells zl.toArray (w.tape w.drawn (.appendCap (len + m) cap e) % (2 ^ 63 - (len + m))), { w with drawn := w.drawn + 1, heap := w.heap.push _ }, by omega, ?_, rfl, rfl, rfl, rfl, ?_⟩
  · simp [Builtin.zeroCells, hzs]
  · have hz' : ∀ w', ∃ zv, (zeroValue e).run P w' = .ok zv w' ∧ zv.cells = zl.toArray := fun w' => by
      obtain ⟨zv, h1, h2⟩ := zeT_run (P := P) (w := w') hzl
      exact ⟨zv, h1, by rw [← h2]⟩
    obtain ⟨zv, hz1, hz2⟩ := hz' { w with drawn := w.drawn + 1 }
    have ho := hold { w with drawn := w.drawn + 1 } rfl
    have hc := hfc { w with drawn := w.drawn + 1 } rfl
    have hsub : len + m + w.tape w.drawn (.appendCap (len + m) cap e) % (2 ^ 63 - (len + m)) - (len + m) = w.tape w.drawn (.appendCap (len + m) cap e) % (2 ^ 63 - (len + m)) := by omega
    have hzm : (match (some (d : TypeDesc)) with | some (.int _) => true | _ => false) = false := by cases d <;> simp_all
    simp only [Builtin.append_, List.getElem?_toArray, List.getElem?_cons_zero, List.getElem?_cons_succ, Sem.run_bind, run_underlying hu, run_underlying hx, Result.andThen_ok, Sem.run_pure, run_sizeOf' hz]
    cases d <;> first
      | (simp at hd; done)
      | (simp only [Sem.run_bind, Sem.run_pure, Bool.false_eq_true, if_false, hlen, Result.andThen_ok, Sem.run_ite, if_neg hn3, hti', if_neg hn1, if_neg hn2, run_choose, Question.forced, Question.cut, run_askRoom, ho, hc, hz1, hz2, hsub, newRow, run_newObj, Bool.not_false, if_true]
         try rfl)
end

section
variable {C : Ctx} {s : AState} {β : Bt} {a : Act} {w : World}

theorem Row.append {X : Nat → Prop} {z : Nat} {l m : List (List AV)} {c d : Array Value} (h : Row X β w z l c) (k : Row X β w z m d) : Row X β w z (l ++ m) (c ++ d) := by
  refine ⟨fun x hx => (List.mem_append.1 hx).elim (h.1 x) (k.1 x), by simp [h.2.1, k.2.1, Nat.add_mul], fun i j x s' hi hj => ?_⟩
  by_cases hil : i < l.length
  · rw [List.getElem?_append_left hil] at hi
    obtain ⟨u, hu, hr⟩ := h.2.2 i j x s' hi hj
    exact ⟨u, by rw [Array.getElem?_append_left (Array.getElem?_eq_some_iff.1 hu).1]; exact hu, hr⟩
  · rw [List.getElem?_append_right (by omega)] at hi
    obtain ⟨u, hu, hr⟩ := k.2.2 _ j x s' hi hj
    have he : (i - l.length) * z + l.length * z = i * z := by rw [← Nat.add_mul]; congr 1; omega
    refine ⟨u, ?_, hr⟩
    rw [Array.getElem?_append_right (by rw [h.2.1]; omega), h.2.1]
    rw [← hu]; congr 1; omega

theorem Row.one {X : Nat → Prop} {z : Nat} {l : List (List AV)} {cs : Array Value} (h : Row X β w z l cs) (hz : 0 < z) (ho : ∀ c ∈ l, ∀ s ∈ c, oneA s = true) : ∀ v ∈ cs.toList, v.oneCell' = true := by
  intro v hv
  obtain ⟨q, hq⟩ := List.getElem?_of_mem hv
  rw [Array.getElem?_toList] at hq
  obtain ⟨c, s', h1, h2, hr⟩ := h.get q v hq hz
  exact hr.one (ho c (List.mem_of_getElem? h1) s' (List.mem_of_getElem? h2))

theorem Row.newR {X : Nat → Prop} {z : Nat} {l : List (List AV)} {cs rest : Array Value} (h : Row X β w z l cs) : NewR X β w ⟨z, l⟩ (cs ++ rest) :=
  ⟨h.1, by simp [h.2.1], fun i j c s' hi hj => by
    obtain ⟨u, hu, hr⟩ := h.2.2 i j c s' hi hj
    exact ⟨u, by rw [Array.getElem?_append_left (Array.getElem?_eq_some_iff.1 hu).1]; exact hu, hr⟩⟩

theorem Row.anti {X X' : Nat → Prop} {z : Nat} {l : List (List AV)} {cs : Array Value} (hX : ∀ b, X' b → X b) (h : Row X β w z l cs) : Row X' β w z l cs :=
  ⟨h.1, h.2.1, fun i j c s' hi hj => by obtain ⟨u, hu, hr⟩ := h.2.2 i j c s' hi hj; exact ⟨u, hu, hr.anti hX⟩⟩

theorem XOf_drop {F : Nat → Prop} {h : List (Nat × Blk)} {ns : List Nat} (b : Nat) (hb : XOf F β (dropN ns h) b) : XOf F β h b := by
  rcases hb with hb | ⟨p, hp, r⟩
  · exact .inl hb
  · exact .inr ⟨p, (mem_dropN.1 hp).1, r⟩

/-- A new array for what is appended. -/
theorem ap_out (h : StR C s β a w) (ns : List Nat) {z : Nat} {l : List (List AV)} {cs rest : Array Value} {e : TypeId} {w1 : World} {nc : Nat} (hrow : Row (XOf C.F β s.h) β w z l cs)
    (hrest : rest.size = (nc - l.length) * z) (hnc : l.length ≤ nc) (h1 : w1.os = w.os) (h2 : w1.tape = w.tape) (h3 : w1.output = w.output) (h4 : w1.heap = w.heap.push (.cells (cs ++ rest) e (0, 0))) :
    ∃ β', StR C (pushA { s with h := dropN ns s.h } ⟨z, l⟩) β' a w1 ∧
      RS (XOf C.F β' (pushA { s with h := dropN ns s.h } ⟨z, l⟩).h) β' w1 (.sl s.k 0 l.length) (.slice (some ⟨w.heap.size, 0, none⟩) l.length nc) ∧ (∀ q, q ≠ s.k → β' q = β q) ∧ ∃ b z' m, β' s.k = some (b, 0, z') ∧ w1.shape? b = some (e, m) := by
  have hd := (h.drop ns).push (k := ⟨z, l⟩) (c := cs ++ rest) (t := e) (hrow.anti fun b hb => XOf_drop b hb).newR
  refine ⟨_, hd.same (w' := w1) h1 h2 h3 h4, ?_, fun q hq => by simp [updB, hq], ⟨w.heap.size, z, (cs ++ rest).size, by simp [updB], by simp [World.shape?, h4]⟩⟩
  have := RS.sl (X := XOf C.F (updB β s.k (w.heap.size, 0, z)) (pushA { s with h := dropN ns s.h } ⟨z, l⟩).h) (β := updB β s.k (w.heap.size, 0, z)) (w := w1) (n := s.k) (i := 0) (len := l.length) (cap := nc) (b := w.heap.size) (o := 0) (e := z) (m := (cs ++ rest).size) (t := e)
    (by simp [updB]) hnc (by simp [World.shape?, h4]) (by
      simp [hrow.2.1, hrest, ← Nat.add_mul]
      exact Nat.mul_le_mul_right _ (by omega))
  simpa using this

theorem inplace_get {c cs : Array Value} {u : Nat → Value} {base n q : Nat} (h1 : ∀ q, q < n → c[base + q]? = some (u q)) (hq : q < n + cs.size) (hb : base + n + cs.size ≤ c.size) :
    (c.toList.take (base + n + 0) ++ cs.toList ++ c.toList.drop (base + n + 0 + cs.toList.length)).toArray[base + q]? = (((List.range n).map u).toArray ++ cs)[q]? := by
  simp only [List.getElem?_toArray, Nat.add_zero, List.append_assoc]
  have hpos : base + n ≤ c.toList.length := by simp; omega
  by_cases hqn : q < n
  · rw [List.getElem?_append_left (by simp; omega), List.getElem?_take_of_lt (by omega)]
    rw [Array.getElem?_append_left (by simpa using hqn)]
    simp only [Array.getElem?_toList, h1 q hqn, List.getElem?_toArray, List.getElem?_map]
    rw [List.getElem?_range hqn]; rfl
  · rw [List.getElem?_append_right (by simp; omega)]
    simp only [List.length_take, Nat.min_eq_left hpos]
    rw [List.getElem?_append_left (by simp; omega)]
    rw [Array.getElem?_append_right (by simpa using Nat.le_of_not_lt hqn)]
    simp only [Array.getElem?_toList, List.size_toArray, List.length_map, List.length_range]
    congr 1; omega

set_option maxHeartbeats 2000000 in
theorem apK_sound (h : StR C s β a w) {o : Oper} {xs : Array Operand} {ts : Array TypeId} (ho : o.op = .call ⟨.builtin .append, xs, ts⟩) {K : List Nat → Nat → List (List AV) → Prop}
    (hs : apK C.P (evA s.t) (find s.h) xs.toList ts.toList K) :
    ∃ ns z l u w' β', K ns z l ∧ (execOp a.eval o).run C.P w = .ok (.value u) w' ∧ StR C (pushA { s with h := dropN ns s.h } ⟨z, l⟩) β' a w' ∧
      RS (XOf C.F β' (pushA { s with h := dropN ns s.h } ⟨z, l⟩).h) β' w' (.sl s.k 0 l.length) u ∧ (∀ q, q ≠ s.k → β' q = β q) ∧
      (0 < l.length → ∀ (t1 t2 : TypeId) (e : TypeId), ts = #[t1, t2] → slT C.P t1 = some e → (∀ n ∈ ns, ∃ b z' m, β n = some (b, 0, z') ∧ w.shape? b = some (e, m)) → (∀ x1 x2, xs = #[x1, x2] → ∀ n i len, evA s.t x1 = .sl n i len → i = 0) → ∃ b z' m, β' s.k = some (b, 0, z') ∧ w'.shape? b = some (e, m)) := by
  unfold apK at hs
  split at hs
  case h_2 => exact hs.elim
  rename_i x1 x2 t1 t2 hxs hts
  obtain rfl : xs = #[x1, x2] := by apply Array.ext'; simp [hxs]
  obtain rfl : ts = #[t1, t2] := by apply Array.ext'; simp [hts]
  split at hs
  case h_2 => exact hs.elim
  rename_i e he hni
  obtain ⟨⟨hz, hby, hze⟩, hd2, hs⟩ := hs
  obtain ⟨zl, hzl, hzs⟩ : ∃ zl, zeT C.P e = some zl ∧ zl.length = szT C.P e := by
    cases hq : zeT C.P e with
    | none => simp [hq] at hze
    | some zl => simp [hq] at hze; exact ⟨zl, rfl, hze⟩
  obtain ⟨d2, hd2⟩ := Option.isSome_iff_exists.mp hd2
  have hu := und_of_slT he
  have hv1 := h.read x1
  have hv2 := h.read x2
  have hrun : ∀ u w', (Builtin.append_ #[t1, t2] o.type #[a.eval x1, a.eval x2]).run C.P w = .ok u w' → (execOp a.eval o).run C.P w = .ok (.value u) w' := by
    intro u w' hr
    obtain ⟨_, op, _, _, _, _⟩ := o
    simp only at ho; subst ho
    simp [execOp, resolve, invoke, builtin, hr]
  unfold dstK at hs
  split at hs
  · rename_i n i len hx1
    rw [hx1] at hv1
    split at hs
    case h_2 => exact hs.elim
    rename_i k hk
    obtain ⟨hke, hle, hs⟩ := hs
    obtain ⟨l, cs, ⟨hbig, hone, hK⟩, hlen, hfc, hrow⟩ := srcK_sound h hv2 hs
    have hdl : (takeA i len k.l).length = len := by rw [takeA_eq]; simp; omega
    rw [hdl] at hbig
    generalize hv : a.eval x1 = va at hv1 hrun
    cases hv1 with
    | slz =>
      rename_i ad
      have hd0 : takeA i 0 k.l = [] := List.eq_nil_of_length_eq_zero hdl
      rw [hd0, List.nil_append] at hK
      by_cases hl0 : l.length = 0
      · have hl0' : l = [] := List.eq_nil_of_length_eq_zero hl0
        subst hl0'
        have hcs : cs = #[] := by have := hrow.2.1; simp at this; exact this
        subst hcs
        have hr := run_append_in (P := C.P) (w := w) (ty := o.type) hu hd2 hni hz (base := ad) (len := 0) (cap := 0) hlen (by simp) (hfc w rfl) (w' := w) (by cases ad <;> simp [storeCells])
        have hd' := (h.drop [n]).addNil (szT C.P e)
        exact ⟨_, _, _, _, w, β, hK, hrun _ _ hr, hd', .slz, fun _ _ => rfl, fun h0 => absurd h0 (by simp)⟩
      · obtain ⟨nc, rest, w1, q1, q2, q3, q4, q5, q6, q7⟩ := run_append_out (P := C.P) (w := w) (ty := o.type) hu hd2 hni hz hby hzl hzs (base := ad) (len := 0) (cap := 0) (old := #[]) hlen (by omega) (by omega)
          (fun w' _ => by cases ad <;> simp [Builtin.firstCells, loadCells, loadCellsFrom]) hfc
        simp only [Array.empty_append, Nat.zero_add] at q6 q1 q2 q7
        obtain ⟨β', r1, r2, r3, r4⟩ := ap_out h [n] hrow q2 q1 q3 q4 q5 q6
        exact ⟨_, _, _, _, w1, β', hK, hrun _ _ q7, r1, r2, r3, fun _ t1' t2' e1 ht1 he1 _ _ => by cases ht1; rw [he] at he1; cases he1; exact r4⟩
    | sl hb hl hsh hcap =>
      rename_i cap b o' e' m t
      have he' := own_e hb (h.look n k hk)
      subst he'
      obtain ⟨u, hu1, hu2⟩ := own_row h hk hle hb
      rw [hke] at hu1 hu2
      have hrow2 : Row (XOf C.F β s.h) β w (szT C.P e) (takeA i len k.l ++ l) (((List.range (len * szT C.P e)).map u).toArray ++ cs) := hu2.append hrow
      have hll : (takeA i len k.l ++ l).length = len + l.length := by simp [hdl]
      by_cases hin : len + l.length ≤ cap
      · -- in place
        rcases h.look n k hk with ⟨b', o'', c, t', p1, p2, p3, p4, p5⟩ | ⟨p1, p2⟩
        · rw [p1] at hb; cases hb
          have hcm : m = c.size ∧ t = t' := by simp only [World.shape?, p2, Option.some.injEq, Prod.mk.injEq] at hsh; exact ⟨hsh.2.symm, hsh.1.symm⟩
          obtain ⟨rfl, rfl⟩ := hcm
          have hcs : cs.size = l.length * szT C.P e := hrow.2.1
          have hmul : (i + (len + l.length)) * k.e ≤ (i + cap) * k.e := Nat.mul_le_mul_right _ (by omega)
          rw [Nat.add_mul, Nat.add_mul] at hmul
          have hst := run_storeCells_at C.P b (o' + i * k.e + len * szT C.P e) t cs.toList 0 c w p2 (by simp [hcs]; rw [hke] at hcap hmul ⊢; omega) (hrow.one hz hone)
          have hr := run_append_in (P := C.P) (w := w) (ty := o.type) hu hd2 hni hz (base := some ⟨b, o' + i * k.e, none⟩) (len := len) (cap := cap) hlen hin (hfc w rfl) (by simp only [addr_add]; exact hst)
          have hren := h.rename (o' := o' + i * k.e) (k' := ⟨szT C.P e, takeA i len k.l ++ l⟩) (w' := w.setRow b (c.toList.take (o' + i * k.e + len * szT C.P e + 0) ++ cs.toList ++ c.toList.drop (o' + i * k.e + len * szT C.P e + 0 + cs.toList.length)).toArray) hk p1 p2 (setRow_heap w b c _ t _ p2)
            (by simp [hcs]; rw [hke] at hcap hmul ⊢; omega) (fun q hq => setRow_other w b q _ hq) (setRow_size _ _ _) rfl rfl rfl hrow2.1 (by
              show o' + i * k.e + (takeA i len k.l ++ l).length * szT C.P e ≤ _
              rw [hll, Nat.add_mul]; simp [hcs]; rw [hke] at hcap hmul ⊢; omega) (fun i' j ch s' hi hj => by
              obtain ⟨v, hv, hr⟩ := hrow2.2.2 i' j ch s' hi hj
              refine ⟨v, ?_, hr⟩
              have hlv := (Array.getElem?_eq_some_iff.1 hv).1
              have hg := inplace_get (c := c) (cs := cs) (u := u) (base := o' + i * k.e) (n := len * szT C.P e) (q := i' * szT C.P e + j) (fun q hq => by
                have := hu1 q hq
                rw [← hke] at this
                simpa [World.cell?, p2] using this) (by simpa using hlv) (by rw [hcs]; rw [hke] at hcap hmul ⊢; omega)
              rw [← Nat.add_assoc, hv] at hg
              exact hg)
          refine ⟨_, _, _, _, _, _, hK, hrun _ _ hr, hren, ?_, fun q hq => by simp [updB, hq], fun _ t1' t2' e1 ht1 he1 hn hi0 => ?_⟩
          rotate_left
          · obtain ⟨b1, z1, m1, g1, g2⟩ := hn n (List.mem_singleton.2 rfl)
            rw [p1] at g1; cases g1
            rw [hsh] at g2; cases g2
            have hi00 := hi0 x1 x2 rfl n i len hx1
            subst hi00
            exact ⟨b, szT C.P e, c.size, by simp [updB], by simp only [World.shape?, setRow_heap w b c _ t _ p2]; simp [hcs]; rw [hke] at hcap hmul; (try rw [hke]); omega⟩
          have hsz' : ∀ q t'' m', w.shape? q = some (t'', m') → q = b → True := fun _ _ _ _ _ => trivial
          rw [hll]
          have := RS.sl (X := XOf C.F (updB β s.k (b, o' + i * k.e, szT C.P e)) (pushA { s with h := dropN [n] s.h } ⟨szT C.P e, takeA i len k.l ++ l⟩).h) (β := updB β s.k (b, o' + i * k.e, szT C.P e))
            (w := w.setRow b (c.toList.take (o' + i * k.e + len * szT C.P e + 0) ++ cs.toList ++ c.toList.drop (o' + i * k.e + len * szT C.P e + 0 + cs.toList.length)).toArray)
            (n := s.k) (i := 0) (len := len + l.length) (cap := cap) (b := b) (o := o' + i * k.e) (e := szT C.P e) (m := c.size) (t := t) (by simp [updB]) hin
            (by simp only [World.shape?, setRow_heap w b c _ t _ p2]; simp [hcs]; rw [hke] at hcap hmul ⊢; omega) (by rw [hke] at hcap ⊢; rw [Nat.add_mul] at hcap; simp; omega)
          simpa using this
        · rw [hb] at p2; cases p2
      · obtain ⟨nc, rest, w1, q1, q2, q3, q4, q5, q6, q7⟩ := run_append_out (P := C.P) (w := w) (ty := o.type) hu hd2 hni hz hby hzl hzs (base := some ⟨b, o' + i * k.e, none⟩) (len := len) (cap := cap) hlen (by omega) (by omega)
          (fun w' hw => run_firstCells (w := w') u fun q hq => by rw [cell_of_heap (w := w) (by rw [hw]), hke]; exact hu1 q hq) hfc
        obtain ⟨β', r1, r2, r3, r4⟩ := ap_out h [n] hrow2 (by rw [hll]; exact q2) (by rw [hll]; exact q1) q3 q4 q5 q6
        rw [hll] at r2
        exact ⟨_, _, _, _, w1, β', hK, hrun _ _ q7, r1, by rw [hll]; exact r2, r3, fun _ t1' t2' e1 ht1 he1 _ _ => by cases ht1; rw [he] at he1; cases he1; exact r4⟩
  · rename_i hx1
    rw [hx1] at hv1
    obtain ⟨l, cs, ⟨hbig, hone, hK⟩, hlen, hfc, hrow⟩ := srcK_sound h hv2 hs
    rw [List.nil_append] at hK
    generalize hv : a.eval x1 = va at hv1 hrun
    cases hv1
    by_cases hl0 : l.length = 0
    · have hl0' : l = [] := List.eq_nil_of_length_eq_zero hl0
      subst hl0'
      have hcs : cs = #[] := by have := hrow.2.1; simp at this; exact this
      subst hcs
      have hr := run_append_in (P := C.P) (w := w) (ty := o.type) hu hd2 hni hz (base := none) (len := 0) (cap := 0) hlen (by simp) (hfc w rfl) (w' := w) rfl
      have hd' := (h.drop []).addNil (szT C.P e)
      exact ⟨_, _, _, _, w, β, hK, hrun _ _ hr, hd', .slz, fun _ _ => rfl, fun h0 => absurd h0 (by simp)⟩
    · obtain ⟨nc, rest, w1, q1, q2, q3, q4, q5, q6, q7⟩ := run_append_out (P := C.P) (w := w) (ty := o.type) hu hd2 hni hz hby hzl hzs (base := none) (len := 0) (cap := 0) (old := #[]) hlen (by omega) (by simp at hbig; omega)
        (fun w' _ => by simp [Builtin.firstCells]) hfc
      simp only [Array.empty_append, Nat.zero_add] at q6 q1 q2 q7
      obtain ⟨β', r1, r2, r3, r4⟩ := ap_out h [] hrow q2 q1 q3 q4 q5 q6
      exact ⟨_, _, _, _, w1, β', hK, hrun _ _ q7, r1, r2, r3, fun _ t1' t2' e1 ht1 he1 _ _ => by cases ht1; rw [he] at he1; cases he1; exact r4⟩
  · rename_i hx1
    rw [hx1] at hv1
    obtain ⟨l, cs, ⟨hbig, hone, hK⟩, hlen, hfc, hrow⟩ := srcK_sound h hv2 hs
    rw [List.nil_append] at hK
    generalize hv : a.eval x1 = va at hv1 hrun
    cases hv1
    rename_i ad
    by_cases hl0 : l.length = 0
    · have hl0' : l = [] := List.eq_nil_of_length_eq_zero hl0
      subst hl0'
      have hcs : cs = #[] := by have := hrow.2.1; simp at this; exact this
      subst hcs
      have hr := run_append_in (P := C.P) (w := w) (ty := o.type) hu hd2 hni hz (base := ad) (len := 0) (cap := 0) hlen (by simp) (hfc w rfl) (w' := w) (by cases ad <;> simp [storeCells])
      have hd' := (h.drop []).addNil (szT C.P e)
      exact ⟨_, _, _, _, w, β, hK, hrun _ _ hr, hd', .slz, fun _ _ => rfl, fun h0 => absurd h0 (by simp)⟩
    · obtain ⟨nc, rest, w1, q1, q2, q3, q4, q5, q6, q7⟩ := run_append_out (P := C.P) (w := w) (ty := o.type) hu hd2 hni hz hby hzl hzs (base := ad) (len := 0) (cap := 0) (old := #[]) hlen (by omega) (by simp at hbig; omega)
        (fun w' _ => by cases ad <;> simp [Builtin.firstCells, loadCells, loadCellsFrom]) hfc
      simp only [Array.empty_append, Nat.zero_add] at q6 q1 q2 q7
      obtain ⟨β', r1, r2, r3, r4⟩ := ap_out h [] hrow q2 q1 q3 q4 q5 q6
      exact ⟨_, _, _, _, w1, β', hK, hrun _ _ q7, r1, r2, r3, fun _ t1' t2' e1 ht1 he1 _ _ => by cases ht1; rw [he] at he1; cases he1; exact r4⟩
  · exact hs.elim
end
end Go.Eng
