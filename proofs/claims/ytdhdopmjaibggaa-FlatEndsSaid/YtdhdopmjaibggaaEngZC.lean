/- The engine, part ZC: the same rule as it is used, and its rewrite rules. -/
import Derived.Test.YtdhdopmjaibggaaEngZB
set_option linter.unusedSimpArgs false
set_option linter.unusedVariables false
namespace Go.Eng
open Go Go.RowKit

/-- The tail with what it waits for told beside it. -/
def tailB (P : Program) (A : List (List Nat × List Nat)) (ops : Array Oper) (m k0 : Nat) (rec : List It → (AState → Prop) → AState → Prop) (k : List It) (Q : AState → Prop) : List Bool → List Oper → Nat → AState → Prop
  | [], [], _, s => rec (.o [] ops :: k) Q s
  | true :: fs, o :: r, j, s => opK P idR o [] (tailB P A ops m k0 rec k Q fs r (j + 1)) s
  | false :: fs, o :: r, j, s =>
    match o.op with
      | .store t p x => stK P (evA s.t) (maskE k0 m A s j) t p x fun n b => uOk m A j n = true ∧ tailB P A ops m k0 rec k Q fs r (j + 1) { s with h := setN s.h n b }
      | .call ⟨.builtin .append, xs, ts⟩ => apK P (evA s.t) (maskE k0 m A s j) xs.toList ts.toList fun ns z l => (∀ n ∈ ns, uOk m A j n = true) ∧ tailB P A ops m k0 rec k Q fs r (j + 1) (putA (pushA { s with h := dropN ns s.h } ⟨z, l⟩) o.dst (.sl s.k 0 l.length))
      | _ => False
  | _, _, _, _ => False
def fsOk (m : Nat) (A : List (List Nat × List Nat)) : List Bool → Nat → Bool
  | [], _ => true
  | f :: fs, j => (fullW m A j == f) && fsOk m A fs (j + 1)

theorem opK_mono {P : Program} {o : Oper} {k : List It} {Q Q' : AState → Prop} {s : AState} (hQ : ∀ s, Q s → Q' s) (h : opK P idR o k Q s) {ro : Option Nat} {Cs : Ctx → Prop} {a : Act} {w : World} {next : Act → World → Prop} {E : Exit → Act → World → Prop}
    (hg : GoodC P ro Cs) (hs : Stc Cs s a w) (hnext : ∀ s' a' w', Q' s' → Stc Cs s' a' w' → next a' w') : o.wpIn (wd ro) 0 P a w next E :=
  opK_sound hg hs h fun s' a' w' hq hst => hnext s' a' w' (hQ _ hq) hst

theorem tailB_E {P : Program} {A : List (List Nat × List Nat)} {ops : Array Oper} {m k0 : Nat} {rec : List It → (AState → Prop) → AState → Prop} {k : List It} {Q : AState → Prop} :
    ∀ (fs : List Bool) (r : List Oper) (j : Nat), fsOk m A fs j = true → r.length = fs.length → tailB P A ops m k0 rec k Q fs r j = tailE P A ops m k0 rec k Q r j
  | [], [], j, _, _ => rfl
  | f :: fs, o :: r, j, hf, hl => by
    simp only [fsOk, Bool.and_eq_true, beq_iff_eq] at hf
    obtain ⟨h1, h2⟩ := hf
    have ih := tailB_E (P := P) (A := A) (ops := ops) (m := m) (k0 := k0) (rec := rec) (k := k) (Q := Q) fs r (j + 1) h2 (by simpa using hl)
    funext s
    cases f with
    | true => simp only [tailB, tailE, ih]; rw [if_pos h1]
    | false =>
      simp only [tailB, tailE, ih]
      rw [if_neg (by rw [h1]; simp)]
      obtain ⟨d, op, ty, pos, af, g⟩ := o
      cases op with
      | call c =>
        obtain ⟨callee, xs, ts⟩ := c
        cases callee with
        | builtin b => cases b <;> rfl
        | _ => rfl
      | _ => rfl
  | [], _ :: _, _, _, h => by simp at h
  | _ :: _, [], _, _, h => by simp at h

theorem AtCode.drawB {P : Program} {rec : List It → (AState → Prop) → AState → Prop} {id : Nat} {ops : Array Oper} {k : List It} {Q : AState → Prop} {s : AState} (m : Nat) (A : List (List Nat × List Nat)) (fs : List Bool)
    (hok : (drawEk ops m A && fsOk m A fs m && (fs.length == ops.size - m)) = true)
    (h : vcQ P A ops s (tailB P A ops m s.k rec k Q fs (ops.toList.drop m) m) (ops.toList.take m) 0 { s with k := s.k + m }) : AtCode P rec (.region id ops true) k Q s := by
  simp only [Bool.and_eq_true, beq_iff_eq] at hok
  refine AtCode.drawE m A hok.1.1 ?_
  rw [← tailB_E fs _ m hok.1.2 (by simp; omega)]
  exact h

section
variable (P : Program) (A : List (List Nat × List Nat)) (ops : Array Oper) (m k0 : Nat) (rec : List It → (AState → Prop) → AState → Prop) (k : List It) (Q : AState → Prop)
theorem tailB_nil (j n kk : Nat) (t : Nat → AV) (h : List (Nat × Blk)) (x : Aux) : tailB P A ops m k0 rec k Q [] [] j ⟨n, t, h, kk, x⟩ = rec (.o [] ops :: k) Q ⟨n, t, h, kk, x⟩ := rfl
theorem tailB_true (fs : List Bool) (o : Oper) (r : List Oper) (j n kk : Nat) (t : Nat → AV) (h : List (Nat × Blk)) (x : Aux) : tailB P A ops m k0 rec k Q (true :: fs) (o :: r) j ⟨n, t, h, kk, x⟩ = opK P idR o [] (tailB P A ops m k0 rec k Q fs r (j + 1)) ⟨n, t, h, kk, x⟩ := rfl
/-- On behind an early store. -/
def onS (fs : List Bool) (r : List Oper) (j : Nat) (s : AState) (n : Nat) (b : Blk) : Prop := uOk m A j n = true ∧ force (setN s.h n b) fun h' => force (j + 1) fun j' => tailB P A ops m k0 rec k Q fs r j' { s with h := h' }
theorem onS_eq (fs : List Bool) (r : List Oper) (j n' kk : Nat) (t : Nat → AV) (h : List (Nat × Blk)) (x : Aux) (n : Nat) (b : Blk) : onS P A ops m k0 rec k Q fs r j ⟨n', t, h, kk, x⟩ n b = (uOk m A j n = true ∧ force (setN h n b) fun h' => force (j + 1) fun j' => tailB P A ops m k0 rec k Q fs r j' ⟨n', t, h', kk, x⟩) := rfl
theorem tailB_store (fs : List Bool) (d : Option Nat) (ty : TypeId) (pos : String) (af : Array Edge) (g : Option (Nat × Bool)) (tt : TypeId) (p y : Operand) (r : List Oper) (j n kk : Nat) (t : Nat → AV) (h : List (Nat × Blk)) (x : Aux) :
    tailB P A ops m k0 rec k Q (false :: fs) (⟨d, .store tt p y, ty, pos, af, g⟩ :: r) j ⟨n, t, h, kk, x⟩ =
    optK (cellsA (evA t y)) fun l => pK (evA t p) (fun nn i jj => optK (maskE k0 m A ⟨n, t, h, kk, x⟩ j nn) fun b => optK b.l[i]? fun ch => (0 < szT P tt ∧ l.length = szT P tt ∧ jj + l.length ≤ ch.length ∧ l.all oneA = true) ∧
      force (newCh ch jj l) fun c' => force (b.l.set i c') fun l' => onS P A ops m k0 rec k Q fs r j ⟨n, t, h, kk, x⟩ nn ⟨b.e, l'⟩) (fun _ _ => False) := by
  simp only [tailB, stK, optK, pK, onS, force]
  cases cellsA (evA t y) with
  | none => cases evA t p <;> rfl
  | some l =>
    cases evA t p with
    | ptr nn i jj =>
      simp only
      cases maskE k0 m A ⟨n, t, h, kk, x⟩ j nn with
      | none => rfl
      | some b => simp only; cases b.l[i]? <;> simp
    | _ => rfl
/-- On behind an early append. -/
def onP (fs : List Bool) (r : List Oper) (j : Nat) (d : Option Nat) (s : AState) (ns : List Nat) (z : Nat) (l : List (List AV)) : Prop :=
  (∀ n ∈ ns, uOk m A j n = true) ∧ force (dropN ns s.h) fun h' => force (pushA { s with h := h' } ⟨z, l⟩) fun s' => force l.length fun mm => force (putA s' d (.sl s.k 0 mm)) fun s'' => force (j + 1) fun j' => tailB P A ops m k0 rec k Q fs r j' s''
theorem onP_eq (fs : List Bool) (r : List Oper) (j : Nat) (d : Option Nat) (n' kk : Nat) (t : Nat → AV) (h : List (Nat × Blk)) (x : Aux) (ns : List Nat) (z : Nat) (l : List (List AV)) : onP P A ops m k0 rec k Q fs r j d ⟨n', t, h, kk, x⟩ ns z l =
  ((∀ n ∈ ns, uOk m A j n = true) ∧ force (dropN ns h) fun h' => force (pushA ⟨n', t, h', kk, x⟩ ⟨z, l⟩) fun s' => force l.length fun mm => force (putA s' d (.sl kk 0 mm)) fun s'' => force (j + 1) fun j' => tailB P A ops m k0 rec k Q fs r j' s'') := rfl
theorem tailB_append (fs : List Bool) (d : Option Nat) (ty : TypeId) (pos : String) (af : Array Edge) (g : Option (Nat × Bool)) (a b : Operand) (t' u : TypeId) (r : List Oper) (j n kk : Nat) (t : Nat → AV) (h : List (Nat × Blk)) (x : Aux) :
    tailB P A ops m k0 rec k Q (false :: fs) (⟨d, .call ⟨.builtin .append, #[a, b], #[t', u]⟩, ty, pos, af, g⟩ :: r) j ⟨n, t, h, kk, x⟩ =
    optK (slT P t') fun e => ikT P u = none ∧ force (szT P e) fun z => (0 < z ∧ byT P e ≤ 64 ∧ optK (zeT P e) fun w => w.length = z) ∧ (P.underlying u).isSome = true ∧
      force (evA t a) fun x1 => force (evA t b) fun y => dstE (maskE k0 m A ⟨n, t, h, kk, x⟩ j) z x1 fun ns dl => srcE (maskE k0 m A ⟨n, t, h, kk, x⟩ j) z y fun sl =>
        dl.length + sl.length ≤ 1099511627776 ∧ (∀ c ∈ sl, ∀ q ∈ c, oneA q = true) ∧ force (dl ++ sl) fun l => onP P A ops m k0 rec k Q fs r j d ⟨n, t, h, kk, x⟩ ns z l := by
  simp only [tailB, apK, optK, onP, force, srcE, dstE]
  cases slT P t' with
  | none => rfl
  | some e =>
    simp only
    cases ikT P u with
    | some _ => simp
    | none => simp only [true_and]; cases zeT P e <;> simp
theorem maskE_eq (s : AState) (j q : Nat) : maskE k0 m A s j q = if k0 ≤ q ∧ q < k0 + m then (if (A.getD j ([], [])).1.contains (q - k0) then find s.h q else none) else find s.h q := rfl
end
end Go.Eng
