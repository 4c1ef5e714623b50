/- The engine, part ZD: a contract for arguments of which more is known. -/
import Derived.Test.YtdhdopmjaibggaaEngZC
set_option linter.unusedSimpArgs false
set_option linter.unusedVariables false
namespace Go.Eng
open Go Go.RowKit

def Sub (a a' : AV) : Prop := ∀ (X : Nat → Prop) (β : Bt) (w : World) (u : Value), RS X β w a u → RS X β w a' u
theorem Sub.refl (a : AV) : Sub a a := fun _ _ _ _ h => h
theorem Sub.nil (e : Nat) : Sub (.v (.slice none 0 0)) (.ro e []) := fun _ _ _ _ h => by cases h; exact .ro0
theorem Sub.ez (e : Nat) : Sub .ez (.ro e []) := fun _ _ _ _ h => by cases h; exact .ro0
theorem Sub.unk (a : AV) : Sub a .unk := fun _ _ _ _ _ => .unk _
inductive Subs : List AV → List AV → Prop
  | nil : Subs [] []
  | cons {a a' : AV} {l l' : List AV} (h : Sub a a') (k : Subs l l') : Subs (a :: l) (a' :: l')
theorem Subs.len {l l' : List AV} (h : Subs l l') : l.length = l'.length := by induction h <;> simp_all
theorem Subs.get {l l' : List AV} (h : Subs l l') : ∀ (k : Nat) (a a' : AV), l[k]? = some a → l'[k]? = some a' → Sub a a' := by
  induction h with
  | nil => intro k a a' h; simp at h
  | cons h _ ih =>
    intro k a a' h1 h2
    match k with
    | 0 => simp at h1 h2; subst h1; subst h2; exact h
    | k + 1 => simp at h1 h2; exact ih k a a' h1 h2
theorem Subs.refl : ∀ (l : List AV), Subs l l
  | [] => .nil
  | _ :: l => .cons (.refl _) (Subs.refl l)
theorem PFun.sub {P : Program} {f : FuncId} {as as' : List AV} {R : AV} (h : PFun P f as' R) (hs : Subs as as') : PFun P f as R := by
  refine ⟨h.1, fun X w vs hX hl hR => h.2 X w vs hX (by rw [← hs.len]; exact hl) fun k s u hk hu => ?_⟩
  have hlt : k < as.length := by rw [hs.len]; exact (List.getElem?_eq_some_iff.1 hk).1
  exact hs.get k _ s (List.getElem?_eq_getElem hlt) hk _ _ _ _ (hR k _ u (List.getElem?_eq_getElem hlt) hu)
end Go.Eng
