/- The engine, part X: rules in the form in which they are used. -/
import Derived.Test.YtdhdopmjaibggaaEngW
set_option linter.unusedSimpArgs false
set_option linter.unusedVariables false
namespace Go.Eng
open Go Go.RowKit

/-- What a round goes on with: shut, so that it is looked at only where the state is known. -/
def RfEnd (n : Nat) (S s2 : AState) : Prop := Le (hid n s2) S
def RfQ (n : Nat) (y : Option (Nat × List (List AV))) (Q : AState → Prop) (s2 : AState) : Prop := s2.x.sv ≠ [] ∧ Q (rest n y s2)
def RfBody (rec : List It → (AState → Prop) → AState → Prop) (body : Code) (n : Nat) (S : AState) (y : Option (Nat × List (List AV))) (Q : AState → Prop) (s1 : AState) : Prop := rec [.c body, .lp (RfEnd n S)] (RfQ n y Q) s1
theorem RfEnd_eq (n n' k : Nat) (t : Nat → AV) (h : List (Nat × Blk)) (x : Aux) (S : AState) : RfEnd n S ⟨n', t, h, k, x⟩ = Le (hid n ⟨n', t, h, k, x⟩) S := rfl
theorem RfQ_eq (n n' k : Nat) (t : Nat → AV) (h : List (Nat × Blk)) (f : Nat → AV) (sv : List (Nat → AV)) (y y' : Option (Nat × List (List AV))) (Q : AState → Prop) : RfQ n y Q ⟨n', t, h, k, ⟨f :: sv, y'⟩⟩ = Q ⟨n, f, h, k, ⟨sv, y⟩⟩ := by
  simp [RfQ, rest]
theorem RfBody_eq (rec : List It → (AState → Prop) → AState → Prop) (body : Code) (n : Nat) (S : AState) (y : Option (Nat × List (List AV))) (Q : AState → Prop) (n' k : Nat) (t : Nat → AV) (h : List (Nat × Blk)) (x : Aux) :
    RfBody rec body n S y Q ⟨n', t, h, k, x⟩ = rec [.c body, .lp (RfEnd n S)] (RfQ n y Q) ⟨n', t, h, k, x⟩ := rfl
/-- The range over a function, with slots named. -/
theorem AtCode.rangeF {P : Program} {rec : List It → (AState → Prop) → AState → Prop} {g : Operand} {ps : Array Tmp} {assign body : Code} {k : List It} {Q : AState → Prop} {n : Nat} {t : Nat → AV} {h : List (Nat × Blk)} {kk : Nat} {sv : List (Nat → AV)}
    {y : Option (Nat × List (List AV))} (gf : Nat) (caps' : List AV) (xs : List (List AV)) (ns : List Nat)
    (L : Nat → List (Nat × AV)) (LS : Nat → List (List (Nat × AV))) (iH : Nat → List (Nat × Blk)) (iK : Nat → Nat) (r : List (Nat × Nat))
    (hgf : frzA (find h) 3 (evA t g) = .fn gf caps') (hns : namesA (find h) 3 (evA t g) = ns) (hcl : ∀ x ∈ caps', Cl x) (hseq : ISeq P gf caps' xs) (hps : ∀ bs ∈ xs, bs.length = ps.size) (hpn : ps.toList.all (fun p => decide (p < n)) = true)
    (ha : ∀ p ∈ L 0, Ren (sg r) ((iH 0).map (·.1)) (t p.1) p.2)
    (hb : ∀ p ∈ iH 0, (∃ b, find (dropN ns h) (sg r p.1) = some b ∧ b.e = p.2.e ∧ RenL (sg r) ((iH 0).map (·.1)) b.l p.2.l) ∨ (p.2.l = [] ∧ kk ≤ sg r p.1)) (hlt : ∀ p ∈ iH 0, p.1 < iK 0) (hnd : ((iH 0).map fun p => sg r p.1).Nodup)
    (hsv : RenLs (sg r) ((iH 0).map (·.1)) sv (LS 0))
    (hr : ∀ i bs, xs[i]? = some bs → rec [.c assign, .lp (RfBody rec body n ⟨n, fun _ => .unk, iH (i + 1), iK (i + 1), ⟨tl (L (i + 1)) :: (LS (i + 1)).map tl, none⟩⟩ y Q)] (fun _ => False)
      ⟨n, updL (tl (L i)) ps.toList bs, iH i, iK i, ⟨tl (L i) :: (LS i).map tl, none⟩⟩)
    (hk : rec k Q ⟨n, tl (L xs.length), iH xs.length, iK xs.length, ⟨(LS xs.length).map tl, y⟩⟩) : AtCode P rec (.rangeFunc g ps assign body) k Q ⟨n, t, h, kk, ⟨sv, y⟩⟩ := by
  refine AtCode.range' (s := ⟨n, t, h, kk, ⟨sv, y⟩⟩) (fun i => tl (L i)) (fun i => (LS i).map tl) iH iK hgf hns hcl hseq hps (fun p hp => ?_) ?_ hr hk
  · have := List.all_eq_true.1 hpn p hp
    simpa using this
  · exact Le.tl0 (sv := t :: sv) (Ls := L 0 :: LS 0) (L := []) r (by simp) hb hlt hnd ⟨ha, hsv⟩

/-- The end of a round. -/
theorem Le.hid {n n' k k' : Nat} {t : Nat → AV} {h h' : List (Nat × Blk)} {f : Nat → AV} {sv : List (Nat → AV)} {L : List (Nat × AV)} {Ls : List (List (Nat × AV))} (r : List (Nat × Nat))
    (ha : ∀ p ∈ L, Ren (sg r) (h'.map (·.1)) (f p.1) p.2)
    (hh : ∀ p ∈ h', (∃ b, find h (sg r p.1) = some b ∧ b.e = p.2.e ∧ RenL (sg r) (h'.map (·.1)) b.l p.2.l) ∨ (p.2.l = [] ∧ k ≤ sg r p.1)) (hlt : ∀ p ∈ h', p.1 < k') (hnd : (h'.map fun p => sg r p.1).Nodup) (hsv : RenLs (sg r) (h'.map (·.1)) sv Ls) :
    Le (hid n ⟨n', t, h, k, ⟨f :: sv, none⟩⟩) ⟨n, fun _ => .unk, h', k', ⟨Eng.tl L :: Ls.map Eng.tl, none⟩⟩ :=
  Le.tl0 (sv := f :: sv) (Ls := L :: Ls) (L := []) r (by simp) hh hlt hnd ⟨ha, hsv⟩
theorem takeA_self {n : Nat} {l : List (List AV)} (h : n = l.length) : takeA 0 n l = l := by subst h; simp [takeA]
theorem takeA_tk (n : Nat) (l : List (List AV)) : takeA 0 n l = l.take n := by
  unfold takeA
  split
  · rename_i h; rw [h.2]; simp
  · simp
theorem takeA_00 (l : List (List AV)) : takeA 0 0 l = [] := by simp [takeA_tk]
theorem takeA_s (n : Nat) (x : List AV) (l : List (List AV)) : takeA 0 (n + 1) (x :: l) = x :: takeA 0 n l := by simp [takeA_tk]
theorem snoc_map {α : Type} {l : List α} {i : Nat} {p : α} (h : l[i]? = some p) (f : α → List AV) : (l.take i).map f ++ [f p] = (l.take (i + 1)).map f := by
  rw [List.take_add_one, h]; simp
theorem lt_get {α : Type} {l : List α} {i : Nat} {p : α} (h : l[i]? = some p) : i < l.length := (List.getElem?_eq_some_iff.1 h).1
theorem renL_one {σ : Nat → Nat} {ns : List Nat} {a b : AV} (h : Ren σ ns a b) : RenL σ ns [[a]] [[b]] := by
  refine .inr ⟨rfl, fun i c c' hc hc' => ?_⟩
  match i with
  | 0 =>
    simp at hc hc'; subst hc; subst hc'
    refine ⟨rfl, fun j x y hx hy => ?_⟩
    match j with
    | 0 => simp at hx hy; subst hx; subst hy; exact h
    | j + 1 => simp at hx
  | i + 1 => simp at hc
theorem Cl.ite {c : Prop} [Decidable c] {a b : AV} (ha : Cl a) (hb : Cl b) : Cl (if c then a else b) := by split <;> assumption
theorem Cl.t2 {a b : AV} (ha : Cl a) (hb : Cl b) : Cl (.t [a, b]) := by simp [Cl_t, ha, hb]
theorem Cl.t3 {a b c : AV} (ha : Cl a) (hb : Cl b) (hc : Cl c) : Cl (.t [a, b, c]) := by simp [Cl_t, ha, hb, hc]
theorem renL_row {σ : Nat → Nat} {ns : List Nat} {l m : List AV} (hl : l.length = m.length) (h : ∀ (j : Nat) (a b : AV), l[j]? = some a → m[j]? = some b → Ren σ ns a b) : RenL σ ns [l] [m] := by
  refine .inr ⟨rfl, fun i c c' hc hc' => ?_⟩
  match i with
  | 0 => simp at hc hc'; subst hc; subst hc'; exact ⟨hl, h⟩
  | i + 1 => simp at hc
theorem renL_two {σ : Nat → Nat} {ns : List Nat} {a b a' b' : AV} (h : Ren σ ns a a') (k : Ren σ ns b b') : RenL σ ns [[a, b]] [[a', b']] := by
  refine renL_row rfl fun j x y hx hy => ?_
  match j with
  | 0 => simp at hx hy; subst hx; subst hy; exact h
  | 1 => simp at hx hy; subst hx; subst hy; exact k
  | j + 2 => simp at hx
theorem renL_three {σ : Nat → Nat} {ns : List Nat} {a b c a' b' c' : AV} (h : Ren σ ns a a') (k : Ren σ ns b b') (l : Ren σ ns c c') : RenL σ ns [[a, b, c]] [[a', b', c']] := by
  refine renL_row rfl fun j x y hx hy => ?_
  match j with
  | 0 => simp at hx hy; subst hx; subst hy; exact h
  | 1 => simp at hx hy; subst hx; subst hy; exact k
  | 2 => simp at hx hy; subst hx; subst hy; exact l
  | j + 3 => simp at hx
theorem rest_eq (n n' k : Nat) (t : Nat → AV) (h : List (Nat × Blk)) (f : Nat → AV) (sv : List (Nat → AV)) (y y' : Option (Nat × List (List AV))) : rest n y ⟨n', t, h, k, ⟨f :: sv, y'⟩⟩ = ⟨n, f, h, k, ⟨sv, y⟩⟩ := rfl
theorem updL_cons (t : Nat → AV) (p : Nat) (ps : List Nat) (a : AV) (l : List AV) : updL t (p :: ps) (a :: l) = updL (upd t p a) ps l := rfl
theorem updL_nil (t : Nat → AV) : updL t [] [] = t := rfl
theorem nil_eq : Aux.nil = ⟨[], none⟩ := rfl
end Go.Eng
