/- The engine, part A: abstract values, what a Go value means by them in a world, and what keeps that meaning. Conditions: none (a library text). -/
import Derived.Orders
import Derived.Below
import Derived.KernelRfl
namespace Go.Eng
open Go Go.RowKit

/-- Abstract values. 'v': this very value. 'ptr', 'sl': a pointer into, a slice over, the activation's own block of that name (chunk i, cell j of it). 'ez': an empty slice that has no room. 'rp', 'ro': a pointer to, a slice over, memory that is only read, with its contents. -/
inductive AV where
  | v (x : Value)
  | ptr (n i j : Nat)
  | sl (n i len : Nat)
  | rp (c : List AV) (j : Nat)
  | ro (e : Nat) (l : List (List AV))
  | fn (f : FuncId) (caps : List AV)
  | g (l : List AV)
  | t (l : List AV)
  | ez
  | unk
instance : Inhabited AV := ⟨.unk⟩

/-- A name's block, where its contents begin there, and how long a chunk is. -/
abbrev Bt := Nat → Option (Nat × Nat × Nat)

/-- A block of cells. -/
def IsC (w : World) (b : Nat) : Prop := ∃ (c : Array Value) (t : TypeId) (q : Nat × Nat), w.heap[b]? = some (Obj.cells c t q)
theorem IsC.lt {w : World} {b : Nat} (h : IsC w b) : b < w.heap.size := by
  obtain ⟨c, t, q, h⟩ := h
  exact (Array.getElem?_eq_some_iff.1 h).1
theorem IsC.to {w w' : World} {b : Nat} (h : IsC w b) (e : w'.heap[b]? = w.heap[b]?) : IsC w' b := by
  obtain ⟨c, t, q, h⟩ := h
  exact ⟨c, t, q, e.trans h⟩

inductive RS (X : Nat → Prop) (β : Bt) (w : World) : AV → Value → Prop
  | v (x : Value) : RS X β w (.v x) x
  | unk (x : Value) : RS X β w .unk x
  | ptr {n i j b o e : Nat} (h : β n = some (b, o, e)) : RS X β w (.ptr n i j) (.pointer (some ⟨b, o + i * e + j, none⟩))
  | sl {n i len cap b o e m : Nat} {t : TypeId} (h : β n = some (b, o, e)) (hl : len ≤ cap) (hs : w.shape? b = some (t, m)) (hc : o + (i + cap) * e ≤ m) :
      RS X β w (.sl n i len) (.slice (some ⟨b, o + i * e, none⟩) len cap)
  | slz {n i : Nat} {a : Option Addr} : RS X β w (.sl n i 0) (.slice a 0 0)
  | ez {a : Option Addr} : RS X β w .ez (.slice a 0 0)
  | ro0 {e cap : Nat} {a : Option Addr} : RS X β w (.ro e []) (.slice a 0 cap)
  | ro {e b o cap : Nat} {l : List (List AV)} (u : Nat → Value) (hX : ¬ X b) (hb : IsC w b) (hl : l.length ≤ cap)
      (hd : ∀ c ∈ l, c.length = e) (hu : ∀ k, k < l.length * e → w.cell? ⟨b, o + k, none⟩ = some (u k))
      (hR : ∀ (i j : Nat) (c : List AV) (s : AV), l[i]? = some c → c[j]? = some s → RS X β w s (u (i * e + j))) :
      RS X β w (.ro e l) (.slice (some ⟨b, o, none⟩) l.length cap)
  | rp {c : List AV} {j b o : Nat} (u : Nat → Value) (hX : ¬ X b) (hb : IsC w b)
      (hu : ∀ k, k < c.length → w.cell? ⟨b, o + k, none⟩ = some (u k)) (hR : ∀ (k : Nat) (s : AV), c[k]? = some s → RS X β w s (u k)) :
      RS X β w (.rp c j) (.pointer (some ⟨b, o + j, none⟩))
  | fn {f : FuncId} {caps : List AV} {vs : Array Value} (hl : caps.length = vs.size)
      (hR : ∀ (k : Nat) (s : AV) (u : Value), caps[k]? = some s → vs[k]? = some u → RS X β w s u) : RS X β w (.fn f caps) (.func (.func f) #[] vs)
  | g {l : List AV} {cs : Array Value} (hl : l.length = cs.size)
      (hR : ∀ (k : Nat) (s : AV) (u : Value), l[k]? = some s → cs[k]? = some u → RS X β w s u) : RS X β w (.g l) (.agg cs)
  | t {l : List AV} {cs : Array Value} (hl : l.length = cs.size)
      (hR : ∀ (k : Nat) (s : AV) (u : Value), l[k]? = some s → cs[k]? = some u → RS X β w s u) : RS X β w (.t l) (.tuple cs)

/-- What keeps the meaning: the world may turn in the blocks of X and grow. -/
structure Mono (X : Nat → Prop) (β : Bt) (w : World) (X' : Nat → Prop) (β' : Bt) (w' : World) : Prop where
  hX : ∀ b, X' b → ¬ X b → w.heap.size ≤ b
  hβ : ∀ n r, β n = some r → β' n = some r
  hz : w.heap.size ≤ w'.heap.size
  hw : ∀ b, b < w.heap.size → ¬ X b → w'.heap[b]? = w.heap[b]?
  hs : ∀ b t m, w.shape? b = some (t, m) → w'.shape? b = some (t, m)

theorem Mono.refl (X : Nat → Prop) (β : Bt) (w : World) : Mono X β w X β w :=
  ⟨fun _ h h' => absurd h h', fun _ _ h => h, Nat.le_refl _, fun _ _ _ => rfl, fun _ _ _ h => h⟩

theorem cell_of_heap {w w' : World} {a : Addr} (h : w'.heap[a.block]? = w.heap[a.block]?) : w'.cell? a = w.cell? a := by
  unfold World.cell?; rw [h]
theorem shape_of_heap {w w' : World} {b : Nat} (h : w'.heap[b]? = w.heap[b]?) : w'.shape? b = w.shape? b := by
  unfold World.shape?; rw [h]

theorem RS.mono {X X' : Nat → Prop} {β β' : Bt} {w w' : World} (m : Mono X β w X' β' w') {a : AV} {x : Value} (h : RS X β w a x) : RS X' β' w' a x := by
  have keep : ∀ b, ¬ X b → b < w.heap.size → ¬ X' b := fun b h1 h2 h3 => by have := m.hX b h3 h1; omega
  induction h with
  | v x => exact .v x
  | unk x => exact .unk x
  | ptr h => exact .ptr (m.hβ _ _ h)
  | sl h hl hs hc => exact .sl (m.hβ _ _ h) hl (m.hs _ _ _ hs) hc
  | slz => exact .slz
  | ez => exact .ez
  | ro0 => exact .ro0
  | ro u hX hb hl hd hu _ ih =>
    exact .ro u (keep _ hX hb.lt) (hb.to (m.hw _ hb.lt hX)) hl hd (fun k hk => by rw [cell_of_heap (m.hw _ hb.lt hX)]; exact hu k hk) ih
  | rp u hX hb hu _ ih =>
    exact .rp u (keep _ hX hb.lt) (hb.to (m.hw _ hb.lt hX)) (fun k hk => by rw [cell_of_heap (m.hw _ hb.lt hX)]; exact hu k hk) ih
  | fn hl _ ih => exact .fn hl ih
  | g hl _ ih => exact .g hl ih
  | t hl _ ih => exact .t hl ih

/-- The X alone gets smaller. -/
theorem RS.anti {X X' : Nat → Prop} {β : Bt} {w : World} (hX : ∀ b, X' b → X b) {a : AV} {x : Value} (h : RS X β w a x) : RS X' β w a x :=
  h.mono ⟨fun b h1 h2 => absurd (hX b h1) h2, fun _ _ h => h, Nat.le_refl _, fun _ _ _ => rfl, fun _ _ _ h => h⟩

/-- An own block: how long its chunks are, and the chunks. -/
structure Blk where
  e : Nat
  l : List (List AV)
instance : Inhabited Blk := ⟨⟨0, []⟩⟩

def OwnR (X : Nat → Prop) (β : Bt) (w : World) (n : Nat) (k : Blk) : Prop :=
  (∃ (b o : Nat) (c : Array Value) (t : TypeId), β n = some (b, o, k.e) ∧ w.heap[b]? = some (.cells c t (0, 0)) ∧ (∀ ch ∈ k.l, ch.length = k.e) ∧
      o + k.l.length * k.e ≤ c.size ∧ ∀ (i j : Nat) (ch : List AV) (s : AV), k.l[i]? = some ch → ch[j]? = some s → ∃ u, c[o + i * k.e + j]? = some u ∧ RS X β w s u) ∨
  (k.l = [] ∧ β n = none)

/-- The same block, untouched, under a step that keeps meanings. -/
theorem OwnR.mono {X X' : Nat → Prop} {β β' : Bt} {w w' : World} (m : Mono X β w X' β' w') {n : Nat} {k : Blk} (h : OwnR X β w n k)
    (hb : ∀ b o e, β n = some (b, o, e) → w'.heap[b]? = w.heap[b]?) (hn : β n = none → β' n = none) : OwnR X' β' w' n k := by
  rcases h with ⟨b, o, c, t, h1, h2, h3, h4, h5⟩ | ⟨h1, h2⟩
  · refine .inl ⟨b, o, c, t, m.hβ _ _ h1, by rw [hb _ _ _ h1]; exact h2, h3, h4, fun i j ch s hi hj => ?_⟩
    obtain ⟨u, hu, hr⟩ := h5 i j ch s hi hj
    exact ⟨u, hu, hr.mono m⟩
  · exact .inr ⟨h1, hn h2⟩

/-- Beside the state: the slots of the frames around a round's (sv), and what an iterator is still to yield, to which loop (y). -/
structure Aux where
  sv : List (Nat → AV)
  y : Option (Nat × List (List AV))
def Aux.nil : Aux := ⟨[], none⟩

structure AState where
  n : Nat
  t : Nat → AV
  h : List (Nat × Blk)
  k : Nat
  x : Aux

def find (h : List (Nat × Blk)) (n : Nat) : Option Blk :=
  match h with
  | [] => none
  | (m, b) :: r => if m = n then some b else find r n

theorem find_mem {h : List (Nat × Blk)} {n : Nat} {b : Blk} (e : find h n = some b) : (n, b) ∈ h := by
  induction h with
  | nil => simp [find] at e
  | cons p r ih =>
    obtain ⟨m, c⟩ := p
    unfold find at e
    split at e
    · rename_i hm; subst hm; cases e; exact List.mem_cons_self ..
    · exact List.mem_cons_of_mem _ (ih e)

/-- What one activation may not touch for reading (F: its callers' own blocks), what it may write of what was there (Pm), and the world in which it began. -/
structure Ctx where
  P : Program
  F : Nat → Prop
  Pm : Nat → Prop
  W : World
  sv : List (Nat → Value)
  y : Option (Nat × List (List AV))
  ro : Option Nat

/-- What was there when the call began is as it was, but for the blocks that were handed over. -/
structure Fr (Pm : Nat → Prop) (W w : World) : Prop where
  os : w.os = W.os
  tape : w.tape = W.tape
  output : w.output = W.output
  size : W.heap.size ≤ w.heap.size
  block : ∀ b, b < W.heap.size → ¬ Pm b → w.heap[b]? = W.heap[b]?
  shape : ∀ b t m, W.shape? b = some (t, m) → w.shape? b = some (t, m)

def XOf (F : Nat → Prop) (β : Bt) (h : List (Nat × Blk)) (b : Nat) : Prop := F b ∨ ∃ p ∈ h, ∃ o e, β p.1 = some (b, o, e)

/-- The mark of a loop over a function among the deferred calls: nothing is to be called. -/
def Mark (C : Ctx) (w : World) (d : Deferred) : Prop :=
  ∃ D, d = { target := .collected D, args := #[] } ∧ w.heap[D]? = some (Obj.deferred (some [])) ∧ (C.W.heap.size ≤ D ∨ C.Pm D) ∧ ¬ C.F D

/-- What is kept beside the slots: the marks, and the record of the loop whose round this is. -/
structure Bk (C : Ctx) (w : World) (ds : List Deferred) : Prop where
  marks : ∀ d ∈ ds, Mark C w d
  nd : ds.Nodup
  rd : ∀ l, C.ro = some l → (∃ r : Loop, w.heap[l]? = some (Obj.loop r)) ∧ ¬ C.F l

theorem Bk.keep {C : Ctx} {w w' : World} {ds : List Deferred} (h : Bk C w ds) (hk : ∀ (D : Nat) (o : Obj), w.heap[D]? = some o → (∀ c t q, o ≠ .cells c t q) → ¬ C.F D → w'.heap[D]? = w.heap[D]?) : Bk C w' ds := by
  refine ⟨fun d hd => ?_, h.nd, fun l hl => ?_⟩
  · obtain ⟨D, h1, h2, h3, h4⟩ := h.marks d hd
    exact ⟨D, h1, (hk _ _ h2 (fun _ _ _ => by simp) h4).trans h2, h3, h4⟩
  · obtain ⟨⟨r, hr⟩, hF⟩ := h.rd l hl
    exact ⟨⟨r, (hk _ _ hr (fun _ _ _ => by simp) hF).trans hr⟩, hF⟩
theorem lt_of_get {w : World} {D : Nat} {o : Obj} (h : w.heap[D]? = some o) : D < w.heap.size := (Array.getElem?_eq_some_iff.1 h).1

/-- The saved slots. -/
def SvR (X : Nat → Prop) (β : Bt) (w : World) (l : List (Nat → AV)) (v : List (Nat → Value)) : Prop :=
  l.length = v.length ∧ ∀ (j : Nat) (f : Nat → AV) (g : Nat → Value), l[j]? = some f → v[j]? = some g → ∀ i, RS X β w (f i) (g i)
theorem SvR.mono {X X' : Nat → Prop} {β β' : Bt} {w w' : World} (m : Mono X β w X' β' w') {l : List (Nat → AV)} {v : List (Nat → Value)} (h : SvR X β w l v) : SvR X' β' w' l v :=
  ⟨h.1, fun j f g hf hg i => (h.2 j f g hf hg i).mono m⟩

structure StR (C : Ctx) (s : AState) (β : Bt) (a : Act) (w : World) : Prop where
  defers : Bk C w a.defers
  size : a.tmps.size = s.n
  tm : ∀ i : Nat, RS (XOf C.F β s.h) β w (s.t i) (a.tmps.getD i undef)
  own : ∀ p ∈ s.h, OwnR (XOf C.F β s.h) β w p.1 p.2
  lt : ∀ p ∈ s.h, p.1 < s.k
  βlt : ∀ n r, β n = some r → n < s.k
  nd : (s.h.map (·.1)).Nodup
  inj : ∀ p ∈ s.h, ∀ q ∈ s.h, ∀ b o e o' e', β p.1 = some (b, o, e) → β q.1 = some (b, o', e') → p.1 = q.1
  mine : ∀ p ∈ s.h, ∀ b o e, β p.1 = some (b, o, e) → (C.W.heap.size ≤ b ∨ C.Pm b) ∧ ¬ C.F b
  fr : Fr C.Pm C.W w
  Flt : ∀ b, C.F b → b < C.W.heap.size
  sv : SvR (XOf C.F β s.h) β w s.x.sv C.sv
  yy : s.x.y = C.y

def St (C : Ctx) (s : AState) (a : Act) (w : World) : Prop := ∃ β, StR C s β a w

end Go.Eng
