/- The engine, part V: further rules. -/
import Derived.Test.YtdhdopmjaibggaaEngU
set_option linter.unusedSimpArgs false
set_option linter.unusedVariables false
namespace Go.Eng
open Go Go.RowKit

theorem iK_ro (e : Nat) (l : List (List AV)) (f : Nat → List (List AV) → Prop) (g : Nat → Nat → Nat → Prop) (h : Nat → Nat → Prop) : iK (.ro e l) f g h = f e l := rfl
theorem iK_sl (n i m : Nat) (f : Nat → List (List AV) → Prop) (g : Nat → Nat → Nat → Prop) (h : Nat → Nat → Prop) : iK (.sl n i m) f g h = g n i m := rfl

/-! ### An element of an array's value or of a string -/
def ixE (P : Program) (t : TypeId) (x : AV) (y : AV) (K : AV → Prop) [Tg K] : Prop :=
  match x with
  | .g l => optK (asI y) fun q => indexE P K t q.2 l
  | .v (.string s) => optK (asI y) fun q => P.underlying t = some .string ∧ 0 ≤ q.2 ∧ optK (s[q.2.toNat]?) fun b => force (AV.v (.int .u8 b.toNat)) K
  | _ => False
theorem ixE_g (P : Program) (t : TypeId) (l : List AV) (y : AV) (K : AV → Prop) : ixE P t (.g l) y K = optK (asI y) fun q => indexE P K t q.2 l := rfl
theorem ixE_s (P : Program) (t : TypeId) (s : ByteArray) (y : AV) (K : AV → Prop) : ixE P t (.v (.string s)) y K = optK (asI y) fun q => P.underlying t = some .string ∧ 0 ≤ q.2 ∧ optK (s[q.2.toNat]?) fun b => force (AV.v (.int .u8 b.toNat)) K := rfl
theorem qE_index (P : Program) (ρ : Operand → AV) (H : Nat → Option Blk) (K : AV → Prop) (t : TypeId) (x ix : Operand) : qev P ρ H (.index t x ix) K = ixE P t (ρ x) (ρ ix) K := by
  cases hx : ρ x with
  | g l => rw [qE_index_g P ρ H K t x ix l hx]; rfl
  | v a => cases a with
    | string s =>
      simp only [qev, hx, ixE, optK, force]
      cases asI (ρ ix) with
      | none => rfl
      | some q =>
        obtain ⟨k, i⟩ := q
        simp only
        cases s[i.toNat]? <;> simp
    | _ => simp only [qev, hx, ixE]; cases asI (ρ ix) <;> rfl
  | _ => simp only [qev, hx, ixE]; cases asI (ρ ix) <;> rfl

/-- A call whose arguments are closed values. -/
theorem AtFn.pure0 {P : Program} {rec : List It → (AState → Prop) → AState → Prop} {o : Oper} {f : FuncId} {as : List AV} {k : List It} {Q : AState → Prop} {s : AState} {R : AV}
    (hfun : PFun P f as R) (hk : (∀ a ∈ as, Cl a) ∧ force (putA s o.dst R) fun s' => rec k Q s') : AtFn P rec o f as k Q s := by
  obtain ⟨hcl, hk⟩ := hk
  rintro ⟨fo, xs, ats, caps, ho, hf, rfl⟩ ro Cs next E hg hnext a w ⟨C, hC, β, h⟩
  have hP := hg.prog C hC
  subst hP
  refine ⟨fun _ _ => trivial, ?_⟩
  rw [Oper.semAt_eq _ _ _ (fun c hc => by rw [ho] at hc; cases hc)]
  obtain ⟨⟨fn, hfn, hname, hbody⟩, hcall⟩ := hfun
  have hfr := h.read fo
  rw [hf] at hfr
  generalize hv : a.eval fo = va at hfr
  cases hfr with
  | fn hl hR =>
    rename_i vs
    obtain ⟨ha1, ha2⟩ := args_get (fun x => h.read x) xs
    have hrun : (execOp a.eval o).run C.P w = .ok (.enter f (xs.map a.eval ++ vs)) w := by
      obtain ⟨_, op, _, _, _, _⟩ := o
      simp only at ho; subst ho
      have hnb : ¬ fn.body = none := by cases hb : fn.body <;> simp_all
      have hne : ¬ fn.name = "runtime.NumGoroutine" := by simpa using hname
      simp [execOp, resolve, hv, Deferred.ofValue, invoke, callFunc, hfn, hne, hnb]
    rw [hrun]
    have hX : ∀ b, XOf C.F β s.h b → b < w.heap.size := by
      rintro b (hb | ⟨p, hp, o', e, hb⟩)
      · exact Nat.lt_of_lt_of_le (h.Flt b hb) h.fr.size
      · exact h.lt_size hp hb
    refine ⟨wd_depth, callsIn_wd ?_⟩
    refine Calls.mono (hcall _ w (xs.map a.eval ++ vs) hX (by simp at ha1 hl ⊢; omega) (fun q sv u hsv hu => ?_)) ?_
    · have hmem : sv ∈ xs.toList.map (evA s.t) ++ caps := List.mem_of_getElem? hsv
      have hrs : RS (XOf C.F β s.h) β w sv u := by
        by_cases hq : q < (xs.toList.map (evA s.t)).length
        · rw [List.getElem?_append_left hq] at hsv
          rw [Array.getElem?_append_left (by omega)] at hu
          exact ha2 q sv u hsv hu
        · rw [List.getElem?_append_right (by omega)] at hsv
          rw [Array.getElem?_append_right (by omega)] at hu
          rw [← ha1] at hu
          exact hR _ sv u hsv hu
      exact hrs.closed (hcl _ hmem) B0
    · rintro e w' ⟨v, rfl, hRv, hext⟩
      have hRv' : RS (XOf C.F β s.h) β w' R v := hRv.mono ⟨fun _ h h' => absurd h h', (fun _ _ h => by cases h), Nat.le_refl _, fun _ _ _ => rfl, fun _ _ _ h => h⟩
      exact hnext _ _ _ hk ⟨C, hC, β, (h.ext hext).put hRv' o.dst⟩
end Go.Eng
