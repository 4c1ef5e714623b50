/- The engine of these proofs, part 6: how a function's text is run over abstract values, and why that is right. Conditions: none (a library text). -/
import Derived.Test.YtfmlhmfbhcfnpaaDoorBE5
import Derived.ProofKit
import Derived.OpenShut
import Derived.ChangeOld
import Derived.ChangeShapes
import Derived.WideShapes
import Derived.Carry
set_option linter.unusedSimpArgs false
set_option linter.unusedVariables false
namespace Go.Eng
open Go Go.RowKit

/-- The tail with what it waits for told beside it. -/
def tailB (P : Program) (A : List (List Nat × List Nat)) (ops : Array Oper) (m k0 : Nat) (rec : List It → (AState → Prop) → AState → Prop) (k : List It) (Q : AState → Prop) : List Bool → List Oper → Nat → AState → Prop
  | [], [], _, s => rec (.o [] ops :: k) Q s
  | true :: fs, o :: r, j, s => opK P idR o [] (tailB P A ops m k0 rec k Q fs r (j + 1)) s
  | false :: fs, o :: r, j, s =>
    match o.op with
      | .store t p x => stK P (evA s.t) (maskE k0 m A s j) t p x fun n b => uOk m A j n = true ∧ tailB P A ops m k0 rec k Q fs r (j + 1) { s with h := setN s.h n b }
      | .call ⟨.builtin .append, xs, ts⟩ => apK P (evA s.t) (maskE k0 m A s j) xs.toList ts.toList fun ns z l => (∀ n ∈ ns, uOk m A j n = true) ∧ tailB P A ops m k0 rec k Q fs r (j + 1) (putA (pushA { s with h := dropN ns s.h } ⟨z, l⟩) o.dst (.sl s.k 0 l.length))
      | _ => False
  | _, _, _, _ => False
def fsOk (m : Nat) (A : List (List Nat × List Nat)) : List Bool → Nat → Bool
  | [], _ => true
  | f :: fs, j => (fullW m A j == f) && fsOk m A fs (j + 1)

theorem tailB_E {P : Program} {A : List (List Nat × List Nat)} {ops : Array Oper} {m k0 : Nat} {rec : List It → (AState → Prop) → AState → Prop} {k : List It} {Q : AState → Prop} :
    ∀ (fs : List Bool) (r : List Oper) (j : Nat), fsOk m A fs j = true → r.length = fs.length → tailB P A ops m k0 rec k Q fs r j = tailE P A ops m k0 rec k Q r j
  | [], [], j, _, _ => rfl
  | f :: fs, o :: r, j, hf, hl => by
    simp only [fsOk, Bool.and_eq_true, beq_iff_eq] at hf
    obtain ⟨h1, h2⟩ := hf
    have ih := tailB_E (P := P) (A := A) (ops := ops) (m := m) (k0 := k0) (rec := rec) (k := k) (Q := Q) fs r (j + 1) h2 (by simpa using hl)
    funext s
    cases f with
    | true => simp only [tailB, tailE, ih]; rw [if_pos h1]
    | false =>
      simp only [tailB, tailE, ih]
      rw [if_neg (by rw [h1]; simp)]
      obtain ⟨d, op, ty, pos, af, g⟩ := o
      cases op with
      | call c =>
        obtain ⟨callee, xs, ts⟩ := c
        cases callee with
        | builtin b => cases b <;> rfl
        | _ => rfl
      | _ => rfl
  | [], _ :: _, _, _, h => by simp at h
  | _ :: _, [], _, _, h => by simp at h

theorem AtCode.drawB {P : Program} {rec : List It → (AState → Prop) → AState → Prop} {id : Nat} {ops : Array Oper} {k : List It} {Q : AState → Prop} {s : AState} (m : Nat) (A : List (List Nat × List Nat)) (fs : List Bool)
    (hok : (drawEk ops m A && fsOk m A fs m && (fs.length == ops.size - m)) = true)
    (h : vcQ P A ops s (tailB P A ops m s.k rec k Q fs (ops.toList.drop m) m) (ops.toList.take m) 0 { s with k := s.k + m }) : AtCode P rec (.region id ops true) k Q s := by
  simp only [Bool.and_eq_true, beq_iff_eq] at hok
  refine AtCode.drawE m A hok.1.1 ?_
  rw [← tailB_E fs _ m hok.1.2 (by simp; omega)]
  exact h

section
variable (P : Program) (A : List (List Nat × List Nat)) (ops : Array Oper) (m k0 : Nat) (rec : List It → (AState → Prop) → AState → Prop) (k : List It) (Q : AState → Prop)
theorem tailB_nil (j n kk : Nat) (t : Nat → AV) (h : List (Nat × Blk)) (x : Aux) : tailB P A ops m k0 rec k Q [] [] j ⟨n, t, h, kk, x⟩ = rec (.o [] ops :: k) Q ⟨n, t, h, kk, x⟩ := rfl
theorem tailB_true (fs : List Bool) (o : Oper) (r : List Oper) (j n kk : Nat) (t : Nat → AV) (h : List (Nat × Blk)) (x : Aux) : tailB P A ops m k0 rec k Q (true :: fs) (o :: r) j ⟨n, t, h, kk, x⟩ = opK P idR o [] (tailB P A ops m k0 rec k Q fs r (j + 1)) ⟨n, t, h, kk, x⟩ := rfl
/-- On behind an early store. -/
def onS (fs : List Bool) (r : List Oper) (j : Nat) (s : AState) (n : Nat) (b : Blk) : Prop := uOk m A j n = true ∧ force (setN s.h n b) fun h' => force (j + 1) fun j' => tailB P A ops m k0 rec k Q fs r j' { s with h := h' }
theorem onS_eq (fs : List Bool) (r : List Oper) (j n' kk : Nat) (t : Nat → AV) (h : List (Nat × Blk)) (x : Aux) (n : Nat) (b : Blk) : onS P A ops m k0 rec k Q fs r j ⟨n', t, h, kk, x⟩ n b = (uOk m A j n = true ∧ force (setN h n b) fun h' => force (j + 1) fun j' => tailB P A ops m k0 rec k Q fs r j' ⟨n', t, h', kk, x⟩) := rfl
theorem tailB_store (fs : List Bool) (d : Option Nat) (ty : TypeId) (pos : String) (af : Array Edge) (g : Option (Nat × Bool)) (tt : TypeId) (p y : Operand) (r : List Oper) (j n kk : Nat) (t : Nat → AV) (h : List (Nat × Blk)) (x : Aux) :
    tailB P A ops m k0 rec k Q (false :: fs) (⟨d, .store tt p y, ty, pos, af, g⟩ :: r) j ⟨n, t, h, kk, x⟩ =
    optK (cellsA (evA t y)) fun l => pK (evA t p) (fun nn i jj => optK (maskE k0 m A ⟨n, t, h, kk, x⟩ j nn) fun b => optK b.l[i]? fun ch => (0 < szT P tt ∧ l.length = szT P tt ∧ jj + l.length ≤ ch.length ∧ l.all oneA = true) ∧
      force (newCh ch jj l) fun c' => force (b.l.set i c') fun l' => onS P A ops m k0 rec k Q fs r j ⟨n, t, h, kk, x⟩ nn ⟨b.e, l'⟩) (fun _ _ => False) := by
  simp only [tailB, stK, optK, pK, onS, force]
  cases cellsA (evA t y) with
  | none => cases evA t p <;> rfl
  | some l =>
    cases evA t p with
    | ptr nn i jj =>
      simp only
      cases maskE k0 m A ⟨n, t, h, kk, x⟩ j nn with
      | none => rfl
      | some b => simp only; cases b.l[i]? <;> simp
    | _ => rfl
theorem maskE_eq (s : AState) (j q : Nat) : maskE k0 m A s j q = if k0 ≤ q ∧ q < k0 + m then (if (A.getD j ([], [])).1.contains (q - k0) then find s.h q else none) else find s.h q := rfl
end
end Go.Eng

set_option linter.unusedSimpArgs false
set_option linter.unusedVariables false
namespace Go.Eng
open Go Go.RowKit

def Sub (a a' : AV) : Prop := ∀ (X : Nat → Prop) (β : Bt) (w : World) (u : Value), RS X β w a u → RS X β w a' u
theorem Sub.refl (a : AV) : Sub a a := fun _ _ _ _ h => h
theorem Sub.nil (e : Nat) : Sub (.v (.slice none 0 0)) (.ro e []) := fun _ _ _ _ h => by cases h; exact .ro0
theorem Sub.ez (e : Nat) : Sub .ez (.ro e []) := fun _ _ _ _ h => by cases h; exact .ro0
theorem Sub.unk (a : AV) : Sub a .unk := fun _ _ _ _ _ => .unk _
inductive Subs : List AV → List AV → Prop
  | nil : Subs [] []
  | cons {a a' : AV} {l l' : List AV} (h : Sub a a') (k : Subs l l') : Subs (a :: l) (a' :: l')
theorem Subs.len {l l' : List AV} (h : Subs l l') : l.length = l'.length := by induction h <;> simp_all
theorem Subs.get {l l' : List AV} (h : Subs l l') : ∀ (k : Nat) (a a' : AV), l[k]? = some a → l'[k]? = some a' → Sub a a' := by
  induction h with
  | nil => intro k a a' h; simp at h
  | cons h _ ih =>
    intro k a a' h1 h2
    match k with
    | 0 => simp at h1 h2; subst h1; subst h2; exact h
    | k + 1 => simp at h1 h2; exact ih k a a' h1 h2
theorem Subs.refl : ∀ (l : List AV), Subs l l
  | [] => .nil
  | _ :: l => .cons (.refl _) (Subs.refl l)
theorem PFun.sub {P : Program} {f : FuncId} {as as' : List AV} {R : AV} (h : PFun P f as' R) (hs : Subs as as') : PFun P f as R := by
  refine ⟨h.1, fun X w vs hX hl hR => h.2 X w vs hX (by rw [← hs.len]; exact hl) fun k s u hk hu => ?_⟩
  have hlt : k < as.length := by rw [hs.len]; exact (List.getElem?_eq_some_iff.1 hk).1
  exact hs.get k _ s (List.getElem?_eq_getElem hlt) hk _ _ _ _ (hR k _ u (List.getElem?_eq_getElem hlt) hu)
end Go.Eng

set_option linter.unusedSimpArgs false
set_option linter.unusedVariables false
namespace Go.Eng
open Go Go.RowKit

/-- What a cell is. -/
inductive Sh where
  | int (k : IntKind)
  | bool
  | str
  | sl (es : List Sh)

inductive Op : Sh → AV → Prop
  | int {k : IntKind} (n : Int) (h : (Lit.int k n).wf = true) : Op (.int k) (.v (.int k n))
  | bool (b : Bool) : Op .bool (.v (.bool b))
  | str (s : ByteArray) (h : s.size ≤ maxLen) : Op .str (.v (.string s))
  | sl {es : List Sh} (l : List (List AV)) (hl : l.length ≤ maxLen) (hd : ∀ c ∈ l, c.length = es.length)
      (h : ∀ c ∈ l, ∀ (j : Nat) (s : Sh) (a : AV), es[j]? = some s → c[j]? = some a → Op s a) : Op (.sl es) (.ro es.length l)

inductive Ops : List Sh → List AV → Prop
  | nil : Ops [] []
  | cons {s : Sh} {a : AV} {ss : List Sh} {as : List AV} (h : Op s a) (r : Ops ss as) : Ops (s :: ss) (a :: as)

theorem Ops_cons {s : Sh} {ss : List Sh} {as : List AV} (h : Ops (s :: ss) as) : ∃ a as', as = a :: as' ∧ Op s a ∧ Ops ss as' := by
  cases h with | cons h r => exact ⟨_, _, rfl, h, r⟩
theorem Ops_nil {as : List AV} (h : Ops [] as) : as = [] := by cases h; rfl
theorem Op_int {k : IntKind} {a : AV} (h : Op (.int k) a) : ∃ n, a = .v (.int k n) ∧ (Lit.int k n).wf = true := by cases h with | int n h => exact ⟨n, rfl, h⟩
theorem Ops.of {es : List Sh} {c : List AV} (hl : c.length = es.length) (h : ∀ (j : Nat) (s : Sh) (a : AV), es[j]? = some s → c[j]? = some a → Op s a) : Ops es c := by
  induction es generalizing c with
  | nil => cases c with
    | nil => exact .nil
    | cons x r => simp at hl
  | cons e es ih => cases c with
    | nil => simp at hl
    | cons x r => exact .cons (h 0 e x rfl rfl) (ih (by simpa using hl) fun j s a hs ha => h (j + 1) s a (by simpa using hs) (by simpa using ha))

/-- The rows of a slice, each of which is of a form. -/
theorem Op_sl {α : Type} {es : List Sh} {a : AV} (f : α → List AV) (p : α → Prop) (hf : ∀ c, Ops es c → ∃ x, c = f x ∧ p x) (h : Op (.sl es) a) :
    ∃ l : List α, a = .ro es.length (l.map f) ∧ l.length ≤ maxLen ∧ ∀ x ∈ l, p x := by
  cases h with
  | sl l hl hd h =>
    have : ∃ xs : List α, l = xs.map f ∧ ∀ x ∈ xs, p x := by
      clear hl
      induction l with
      | nil => exact ⟨[], rfl, by simp⟩
      | cons c r ih =>
        obtain ⟨xs, e, hp⟩ := ih (fun c hc => hd c (List.mem_cons_of_mem _ hc)) (fun c hc => h c (List.mem_cons_of_mem _ hc))
        obtain ⟨x, e', hx⟩ := hf c (Ops.of (hd c (List.mem_cons_self ..)) (h c (List.mem_cons_self ..)))
        exact ⟨x :: xs, by rw [e, e']; rfl, fun y hy => by rcases List.mem_cons.1 hy with rfl | hy; exact hx; exact hp y hy⟩
    obtain ⟨xs, e, hp⟩ := this
    subst e
    exact ⟨xs, rfl, by simpa using hl, hp⟩

def shFs (g : TypeId → Option (List Sh)) (P : Program) : List Field → Nat → Option (List Sh)
  | [], _ => some []
  | f :: r, off => if f.offset = off then (g f.type).bind fun l => if l.length = P.cellsOf f.type then (shFs g P r (off + l.length)).map (l ++ ·) else none else none

def shOf (P : Program) : Nat → TypeId → Option (List Sh)
  | 0, _ => none
  | n + 1, t => match P.underlying t with
    | some .bool => some [.bool]
    | some (.int k) => some [.int k]
    | some .string => some [.str]
    | some (.slice e) => (shOf P n e).bind fun es => if es.length = P.cellsOf e ∧ 0 < es.length then some [.sl es] else none
    | some (.struct fs) => (shFs (shOf P n) P fs.toList 0).bind fun l => if l.length = P.cellsOf t then some l else none
    | some (.array k e) => (shOf P n e).bind fun es => if es.length = P.cellsOf e ∧ k * es.length = P.cellsOf t then some (List.replicate k es).flatten else none
    | _ => none

inductive Opl (w : World) : List Sh → List AV → List Value → Prop
  | nil : Opl w [] [] []
  | cons {s : Sh} {a : AV} {c : Value} {ss : List Sh} {as : List AV} {cs : List Value} (h : Op s a) (k : RS (fun _ => False) B0 w a c) (r : Opl w ss as cs) :
      Opl w (s :: ss) (a :: as) (c :: cs)

theorem Opl.append {w : World} {s s' : List Sh} {a a' : List AV} {c c' : List Value} (h : Opl w s a c) (h' : Opl w s' a' c') : Opl w (s ++ s') (a ++ a') (c ++ c') := by
  induction h with
  | nil => exact h'
  | cons h k _ ih => exact .cons h k ih
theorem Opl.ops {w : World} {s : List Sh} {a : List AV} {c : List Value} (h : Opl w s a c) : Ops s a := by
  induction h with
  | nil => exact .nil
  | cons h _ _ ih => exact .cons h ih
theorem Opl.len {w : World} {s : List Sh} {a : List AV} {c : List Value} (h : Opl w s a c) : a.length = s.length ∧ c.length = s.length := by
  induction h with
  | nil => exact ⟨rfl, rfl⟩
  | cons _ _ _ ih => simp [ih.1, ih.2]
theorem Opl.op {w : World} {s : List Sh} {a : List AV} {c : List Value} (h : Opl w s a c) : ∀ (j : Nat) (t : Sh) (x : AV), s[j]? = some t → a[j]? = some x → Op t x := by
  induction h with
  | nil => intro j t x hs; simp at hs
  | cons h _ _ ih =>
    intro j t x hs hx
    cases j with
    | zero => simp at hs hx; subst hs; subst hx; exact h
    | succ j => exact ih j t x (by simpa using hs) (by simpa using hx)
theorem Opl.rs {w : World} {s : List Sh} {a : List AV} {c : List Value} (h : Opl w s a c) : ∀ (j : Nat) (x : AV) (v : Value), a[j]? = some x → c[j]? = some v → RS (fun _ => False) B0 w x v := by
  induction h with
  | nil => intro j t x hs; simp at hs
  | cons _ k _ ih =>
    intro j t x hs hx
    cases j with
    | zero => simp at hs hx; subst hs; subst hx; exact k
    | succ j => exact ih j t x (by simpa using hs) (by simpa using hx)

section
variable {H : Type} {enc : TypeId × Value → H} {P : Program} {w : World} {spare : Nat → Bool} {held : Bool}

theorem take_two (cs : List Value) (o a b : Nat) : (cs.drop o).take (a + b) = (cs.drop o).take a ++ (cs.drop (o + a)).take b := by
  rw [List.take_add, List.drop_drop]

theorem fields_open {g : TypeId → Option (List Sh)} (cs : List Value) : ∀ (fs : List Field) (off : Nat) (l : List Sh), shFs g P fs off = some l →
    (∀ f ∈ fs, ∀ s, g f.type = some s → ∃ as, Opl w s as ((cs.drop f.offset).take (P.cellsOf f.type))) → ∃ as, Opl w l as ((cs.drop off).take l.length)
  | [], off, l, h, _ => by
    simp only [shFs, Option.some.injEq] at h
    subst h
    exact ⟨[], by simpa using Opl.nil⟩
  | f :: r, off, l, h, hf => by
    unfold shFs at h
    split at h
    case isFalse => cases h
    rename_i ho
    simp only [Option.bind_eq_some_iff] at h
    obtain ⟨s, hs, h⟩ := h
    split at h
    case isFalse => cases h
    rename_i hc
    simp only [Option.map_eq_some_iff] at h
    obtain ⟨l', hl', rfl⟩ := h
    obtain ⟨as, ha⟩ := hf f (List.mem_cons_self ..) s hs
    obtain ⟨as', ha'⟩ := fields_open cs r _ l' hl' fun f hf' => hf f (List.mem_cons_of_mem _ hf')
    rw [List.length_append, take_two]
    rw [← hc, ho] at ha
    exact ⟨_, ha.append ha'⟩

theorem items_open {es : List Sh} (cs : List Value) : ∀ (k : Nat), (∀ i, i < k → ∃ as, Opl w es as ((cs.drop (i * es.length)).take es.length)) →
    ∃ as, Opl w (List.replicate k es).flatten as (cs.take (k * es.length))
  | 0, _ => ⟨[], by simpa using Opl.nil⟩
  | k + 1, h => by
    obtain ⟨as, ha⟩ := items_open cs k fun i hi => h i (by omega)
    obtain ⟨bs, hb⟩ := h k (by omega)
    refine ⟨as ++ bs, ?_⟩
    rw [List.replicate_succ', List.flatten_append, Nat.succ_mul]
    have := take_two cs 0 (k * es.length) es.length
    simp only [List.drop_zero, Nat.zero_add] at this
    rw [this]
    simpa using ha.append hb

theorem isC_of_cell {a : Addr} {x : Value} (h : w.cell? a = some x) : IsC w a.block := by
  unfold World.cell? at h
  split at h
  · rename_i hh; exact ⟨_, _, _, hh⟩
  all_goals cases h

theorem trod_open : ∀ (n fuel : Nat) (t : TypeId) (cs : List Value) (x : DataW H × List MemPlace) (shs : List Sh), shOf P n t = some shs →
    DataW.trod enc P w 0 spare held fuel t cs = some x → ∃ as, Opl w shs as cs
  | 0, _, _, _, _, _, h, _ => by cases h
  | n + 1, fuel, t, cs, x, shs, h, hx => by
    have ih := trod_open n
    unfold shOf at h
    split at h
    · rename_i hu
      cases h
      obtain ⟨b, rfl, _⟩ := DataW.trod_bool hu hx
      exact ⟨_, .cons (.bool b) (.v _) .nil⟩
    · rename_i k hu
      cases h
      obtain ⟨m, rfl, _, hw⟩ := DataW.trod_int hu hx
      exact ⟨_, .cons (.int m hw) (.v _) .nil⟩
    · rename_i hu
      cases h
      obtain ⟨s, rfl, _, hs⟩ := DataW.trod_string hu hx
      exact ⟨_, .cons (.str s hs) (.v _) .nil⟩
    · rename_i e hu
      simp only [Option.bind_eq_some_iff] at h
      obtain ⟨es, he, h⟩ := h
      split at h
      case isFalse => cases h
      rename_i hc
      obtain ⟨hc, hpos⟩ := hc
      cases h
      rcases DataW.trod_slice hu hx with ⟨rfl, _⟩ | ⟨a, len, cap, elems, rest, m, _, rfl, _, _, hl, hm, hlen, hel, _⟩
      · exact ⟨_, .cons (.sl [] (by simp) (by simp) (by simp)) .ro0 .nil⟩
      · by_cases h0 : len = 0
        · subst h0
          exact ⟨_, .cons (.sl [] (by simp) (by simp) (by simp)) .ro0 .nil⟩
        · have hch : ∀ i, ∃ as, i < len → ∃ ds, (∀ j, j < es.length → w.cell? ((a.add (i * es.length)).add j) = ds[j]?) ∧ Opl w es as ds := by
            intro i
            by_cases hi : i < len
            · have hb := hel i hi
              have hy : ∃ y, elems[i]? = some y := ⟨_, List.getElem?_eq_getElem (by omega)⟩
              obtain ⟨y, hy⟩ := hy
              rw [hy, Option.bind_eq_some_iff] at hb
              obtain ⟨ds, hds, hd⟩ := hb
              obtain ⟨as, ha⟩ := ih m e ds y es he hd
              rw [← hc] at hds
              exact ⟨as, fun _ => ⟨ds, (World.cells?_some hds).2.2, ha⟩⟩
            · exact ⟨[], fun h => absurd h hi⟩
          obtain ⟨F, hF⟩ := Classical.axiomOfChoice hch
          have hspot : a.spot = none := by
            obtain ⟨ds, h1, h2⟩ := hF 0 (by omega)
            have h3 := h1 0 hpos
            have : ∃ v, ds[0]? = some v := ⟨_, List.getElem?_eq_getElem (by rw [h2.len.2]; exact hpos)⟩
            obtain ⟨v, hv⟩ := this
            rw [hv] at h3
            simpa [Addr.add] using World.cell?_spot h3
          obtain ⟨b, o, sp⟩ := a
          simp only at hspot
          subst hspot
          simp only [Go.WideShapes.add_plain] at hF
          have hcell : ∀ i j, i < len → j < es.length → ∃ v s, w.cell? ⟨b, o + i * es.length + j, none⟩ = some v ∧ (F i)[j]? = some s ∧ RS (fun _ => False) B0 w s v := by
            intro i j hi hj
            obtain ⟨ds, h1, h2⟩ := hF i hi
            have hv : ds[j]? = some (ds[j]'(by rw [h2.len.2]; exact hj)) := List.getElem?_eq_getElem _
            have hs : (F i)[j]? = some ((F i)[j]'(by rw [h2.len.1]; exact hj)) := List.getElem?_eq_getElem _
            exact ⟨_, _, (h1 j hj).trans hv, hs, h2.rs j _ _ hs hv⟩
          refine ⟨[.ro es.length ((List.range len).map F)], .cons (.sl _ ?_ ?_ ?_) ?_ .nil⟩
          · simp; omega
          · intro c hc'
            obtain ⟨i, hi, rfl⟩ := List.mem_map.1 hc'
            obtain ⟨ds, _, h2⟩ := hF i (List.mem_range.1 hi)
            exact h2.len.1
          · intro c hc' j s a hs ha
            obtain ⟨i, hi, rfl⟩ := List.mem_map.1 hc'
            obtain ⟨ds, _, h2⟩ := hF i (List.mem_range.1 hi)
            exact h2.op j s a hs ha
          · have hll : ((List.range len).map F).length = len := by simp
            have key : RS (fun _ => False) B0 w (.ro es.length ((List.range len).map F)) (.slice (some ⟨b, o, none⟩) ((List.range len).map F).length cap) := by
              refine .ro (fun k => (w.cell? ⟨b, o + k, none⟩).getD undef) (fun h => h) ?_ (by simpa using hl) ?_ ?_ ?_
              · obtain ⟨v, s, h1, _⟩ := hcell 0 0 (by omega) hpos
                exact isC_of_cell h1
              · intro c hc'
                obtain ⟨i, hi, rfl⟩ := List.mem_map.1 hc'
                obtain ⟨ds, _, h2⟩ := hF i (List.mem_range.1 hi)
                exact h2.len.1
              · intro k hk
                rw [hll] at hk
                have h1 : k / es.length < len := (Nat.div_lt_iff_lt_mul hpos).2 hk
                obtain ⟨v, s, h2, _⟩ := hcell (k / es.length) (k % es.length) h1 (Nat.mod_lt _ hpos)
                have e1 : o + k / es.length * es.length + k % es.length = o + k := by have := Nat.div_add_mod k es.length; rw [Nat.mul_comm] at this; omega
                rw [e1] at h2
                simp [h2]
              · intro i j c s hi hj
                simp only [List.getElem?_map, Option.map_eq_some_iff, List.getElem?_range] at hi
                obtain ⟨i', hi', rfl⟩ := hi
                have hi'' := List.getElem?_eq_some_iff.1 hi'
                obtain ⟨hlt, hv⟩ := hi''
                simp at hlt hv
                subst hv
                obtain ⟨ds, _, h2⟩ := hF i hlt
                have hj' : j < es.length := by rw [← h2.len.1]; exact (List.getElem?_eq_some_iff.1 hj).1
                obtain ⟨v, s', h3, h4, h5⟩ := hcell i j hlt hj'
                rw [hj] at h4
                cases h4
                have : o + (i * es.length + j) = o + i * es.length + j := by omega
                simp only [this, h3, Option.getD_some]
                exact h5
            rw [hll] at key
            exact key
    · rename_i fs hu
      simp only [Option.bind_eq_some_iff] at h
      obtain ⟨l, hl, h⟩ := h
      split at h
      case isFalse => cases h
      rename_i hc
      cases h
      obtain ⟨xs, m, _, _, hlen, hxs, hf⟩ := DataW.trod_struct hu hx
      obtain ⟨as, ha⟩ := fields_open (w := w) cs _ _ _ hl fun f hf' s hs => by
        obtain ⟨i, hi⟩ := List.getElem?_of_mem hf'
        have hi2 : fs[i]? = some f := by simpa using hi
        have h1 := hf i f hi2
        have hlt : i < xs.length := by rw [hxs]; exact (Array.getElem?_eq_some_iff.1 hi2).1
        rw [List.getElem?_eq_getElem hlt] at h1
        exact ih m _ _ _ s hs h1
      rw [List.drop_zero, hc, ← hlen, List.take_length] at ha
      exact ⟨as, ha⟩
    · rename_i k e hu
      simp only [Option.bind_eq_some_iff] at h
      obtain ⟨es, he, h⟩ := h
      split at h
      case isFalse => cases h
      rename_i hc
      cases h
      obtain ⟨xs, m, _, _, hlen, hxs, hf⟩ := DataW.trod_array hu hx
      obtain ⟨as, ha⟩ := items_open (w := w) (es := es) cs k fun i hi => by
        have h1 := hf i hi
        rw [List.getElem?_eq_getElem (by omega), ← hc.1] at h1
        exact ih m _ _ _ es he h1
      rw [hc.2, ← hlen, List.take_length] at ha
      exact ⟨as, ha⟩
    · cases h

/-- An argument that is a struct or an array. -/
theorem arg_agg {t : TypeId} {v : Value} {d : DataW H} {ps : List MemPlace} {shs : List Sh} {r : Reach} {b0 : Nat} {w' : World} (n : Nat)
    (ht : (match P.underlying t with | some (.struct _) => true | some (.array _ _) => true | _ => false) = true) (hs : shOf P n t = some shs)
    (hval : Value.okWide P w' r b0 t v) (hd : DataW.Trod enc P w 0 spare held t v d ps) : ∃ as, Ops shs as ∧ RS (fun _ => False) B0 w (.g as) v := by
  have hv : ∃ cs, v = .agg cs := by
    unfold Value.okWide at hval
    split at hval
    · obtain ⟨cs, h, _⟩ := hval; exact ⟨cs, h⟩
    · obtain ⟨cs, h, _⟩ := hval; exact ⟨cs, h⟩
    · rename_i h1 h2
      split at ht
      · rename_i fs hu; exact absurd hu (h1 fs)
      · rename_i k e hu; exact absurd hu (h2 k e)
      · cases ht
  obtain ⟨cs, rfl⟩ := hv
  obtain ⟨fuel, hf⟩ := hd
  obtain ⟨as, ha⟩ := trod_open n fuel t _ _ shs hs hf
  refine ⟨as, ha.ops, .g ?_ fun k s u hs hu => ha.rs k s u hs ?_⟩
  · have := ha.len; simp [Value.cells] at this; omega
  · simpa [Value.cells] using hu

end

theorem Ext.below {w w' : World} (h : Ext w w') : Below w.heap.size w w' := ⟨h.os, h.tape, h.output, h.size, h.block⟩

inductive ArgR (w : World) : List AV → List Value → Prop
  | nil : ArgR w [] []
  | cons {a : AV} {v : Value} {as : List AV} {vs : List Value} (h : RS (fun _ => False) B0 w a v) (r : ArgR w as vs) : ArgR w (a :: as) (v :: vs)
theorem ArgR.len {w : World} {as : List AV} {vs : List Value} (h : ArgR w as vs) : as.length = vs.length := by
  induction h with
  | nil => rfl
  | cons _ _ ih => simp [ih]
theorem ArgR.get {w : World} {as : List AV} {vs : List Value} (h : ArgR w as vs) : ∀ (k : Nat) (s : AV) (u : Value), as[k]? = some s → vs[k]? = some u → RS (fun _ => False) B0 w s u := by
  induction h with
  | nil => intro k s u hs; simp at hs
  | cons h _ ih =>
    intro k s u hs hu
    cases k with
    | zero => simp at hs hu; subst hs; subst hu; exact h
    | succ k => exact ih k s u (by simpa using hs) (by simpa using hu)

/-- The call of a law. -/
theorem PFun.law {P : Program} {f : FuncId} {args : List AV} {b : Bool} (h : PFun P f args (.v (.bool b))) {w : World} {vs : Array Value} (ha : ArgR w args vs.toList) :
    Calls P f vs w fun e w' => e = .returned (.bool b) ∧ Below w.heap.size w w' := by
  refine (h.2 (fun _ => False) w vs (fun _ h => h.elim) (by simpa using ha.len) fun k s u hs hu => ha.get k s u hs (by simpa using hu)).mono ?_
  rintro e w' ⟨v, rfl, hr, hx⟩
  cases hr
  exact ⟨rfl, hx.below⟩
end Go.Eng

set_option linter.unusedSimpArgs false
set_option linter.unusedVariables false
namespace Go.Eng
open Go Go.RowKit

/-- A list in parts of one length. -/
def parts (n z : Nat) (l : List AV) : List (List AV) := (List.range n).map fun i => (l.drop (i * z)).take z
theorem parts_get {n z : Nat} {l : List AV} {i : Nat} {c : List AV} (h : (parts n z l)[i]? = some c) : i < n ∧ c = (l.drop (i * z)).take z := by
  simp only [parts, List.getElem?_map, Option.map_eq_some_iff] at h
  obtain ⟨j, hj, rfl⟩ := h
  obtain ⟨hlt, hv⟩ := List.getElem?_eq_some_iff.1 hj
  simp at hlt hv
  subst hv
  exact ⟨hlt, rfl⟩

theorem AtOp.arr {P : Program} {rec : List It → (AState → Prop) → AState → Prop} {o : Oper} {k : List It} {Q : AState → Prop} {s : AState} {t e : TypeId} {x : Operand} {c : List AV} (n z : Nat)
    (ho : o.op = .slice t x none none none) (ht : arT P t = some (n, e)) (hz : szT P e = z) (hz0 : 0 < z)
    (hx : frzA (find s.h) 3 (evA s.t x) = .rp c 0) (hlen : c.length = n * z)
    (hk : force (dropN (namesA (find s.h) 3 (evA s.t x)) s.h) fun h' => force (putA { s with h := h' } o.dst (.ro z (parts n z c))) fun s' => rec k Q s') : AtOp P rec o k Q s := by
  intro ro Cs next E hg hnext a w ⟨C, hC, β, h⟩
  have hP := hg.prog C hC
  subst hP; subst hz
  have hd : ∀ c, o.op ≠ .defer c := by intro c hc; rw [ho] at hc; cases hc
  refine ⟨fun _ _ => trivial, ?_⟩
  rw [Oper.semAt_eq _ _ _ hd]
  have hr := frzA_sound h (namesA (find s.h) 3 (evA s.t x)) 3 _ _ (h.read x) (fun n hn => hn)
  rw [hx] at hr
  generalize hv : a.eval x = va at hr
  have hdr := h.drop (namesA (find s.h) 3 (evA s.t x))
  cases hr with
  | rp u hX hb hu hR =>
    rename_i b q
    have hrun : (execOp a.eval o).run C.P w = .ok (.value (.slice (some ⟨b, q, none⟩) n n)) w := by
      obtain ⟨_, op, _, _, _, _⟩ := o
      simp only at ho; subst ho
      simp [execOp, hv, Instr.sliceAt, run_underlying (und_of_arT ht), Instr.sliceBounds, run_sizeOf' hz0, Instr.sureAddr, Addr.add]
    rw [hrun]
    refine hnext _ _ _ hk ⟨C, hC, β, hdr.put ?_ o.dst⟩
    have hpl : (parts n (szT C.P e) c).length = n := by simp [parts]
    have key : RS (XOf C.F β (dropN (namesA (find s.h) 3 (evA s.t x)) s.h)) β w (.ro (szT C.P e) (parts n (szT C.P e) c)) (.slice (some ⟨b, q, none⟩) (parts n (szT C.P e) c).length n) := by
      have hcl : ∀ (i : Nat), i < n → ((c.drop (i * szT C.P e)).take (szT C.P e)).length = szT C.P e := by
        intro i hi
        have : (i + 1) * szT C.P e ≤ n * szT C.P e := Nat.mul_le_mul_right _ hi
        rw [Nat.succ_mul] at this
        simp; omega
      refine .ro u hX hb (by omega) ?_ ?_ ?_
      · intro ch hch
        obtain ⟨i, hi⟩ := List.getElem?_of_mem hch
        obtain ⟨h1, rfl⟩ := parts_get hi
        exact hcl i h1
      · intro j hj
        rw [hpl] at hj
        exact hu j (by omega)
      · intro i j ch sv hi hj
        obtain ⟨h1, rfl⟩ := parts_get hi
        refine hR _ _ ?_
        have hj' : j < szT C.P e := by have := (List.getElem?_eq_some_iff.1 hj).1; rw [hcl i h1] at this; exact this
        rw [List.getElem?_take_of_lt hj', List.getElem?_drop] at hj
        exact hj
    rw [hpl] at key
    exact key
end Go.Eng
