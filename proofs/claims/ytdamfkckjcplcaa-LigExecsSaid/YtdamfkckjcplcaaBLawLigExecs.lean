/- The law LigExecs of the given program answers true for every input, and its arguments read as before. Conditions: none. -/
import Derived.Test.YtdamfkckjcplcaaBTy
import Derived.Test.YtdamfkckjcplcaaBF1
import Derived.Test.YtdamfkckjcplcaaBF2
import Derived.Test.YtdamfkckjcplcaaBF3
import Derived.Test.YtdamfkckjcplcaaBF4
import Derived.Test.YtdamfkckjcplcaaBF5
import Derived.Test.YtdamfkckjcplcaaRows
import Derived.WalkKit
import Derived.ProofKit
import Derived.OpenShut
import Derived.ShutString
import Derived.ChangeOld
import Derived.Below
import Derived.SizedLaws
import Derived.Carry
namespace Go.Proofs.Ytdamfkckjcplcaa.ligExecsRow
open Go Go.Eng Go.ChangeShapes Go.WideShapes Go.ChangeAt Go.RowKit
set_option linter.unusedVariables false
theorem own : ownKnob Try.prog.godebug = none := by kernel_rfl
theorem laidOut : laidOutB Try.prog = true := by kernel_rfl
set_option maxRecDepth 100000 in
theorem lifted (os : Os) (started : os.Started) (H : Type) (enc : TypeId × Value → H) :
    ReturnsInHanded {} Try.checked os 6 .any (Rows.ligExecsSpec.pre6 enc Try.prog Try.f6 Rows.ligExecsRow.domain false) (Rows.ligExecsSpec.post enc Try.prog Try.f6 false true false false) := by
  refine returnsInHanded_of_change_sized (C := Try.checked) own started (by kernel_rfl) Try.func6
    (ChangeSpec.witness6 (enc := enc) (C := Try.checked) false ⟨#[], #[.agg #[.slice none 0 0], .slice none 0 0, .agg #[.int .i64 0, .slice none 0 0, .slice none 0 0]], []⟩ 8 (by kernel_rfl) (by kernel_rfl) (by kernel_rfl) (by kernel_rfl)) ?_
  intro W base args ds gs before hval0 hW hcnd hsz0 _
  have hval : ∀ (j : Nat) t v, Try.f6.params[j]? = some t → args[j]? = some v → Value.okWide Try.prog W .any base t v := hval0
  have hW' := hW
  obtain ⟨p, q, hA0, hV, rfl, hfz, hnd⟩ := hW
  have hA : DataW.TrodAll enc Try.prog W 0 (fun _ => true) true Try.f6.params.toList args.toList ds p := hA0
  rw [Try.params6] at hA hval
  obtain ⟨v0, vs0, d0, ds0, p0, q0, hargs, rfl, rfl, h0, r0⟩ := trodAll_cons hA
  obtain ⟨v1, vs1, d1, ds1, p1, q1, rfl, rfl, rfl, h1, r1⟩ := trodAll_cons r0
  obtain ⟨v2, vs2, d2, ds2, p2, q2, rfl, rfl, rfl, h2, r2⟩ := trodAll_cons r1
  obtain ⟨rfl, rfl, rfl⟩ := trodAll_nil r2
  obtain rfl : args = #[v0, v1, v2] := by cases args; simp_all
  obtain ⟨rfl, rfl⟩ := trodVars_none hV
  have lt0 : ∀ x ∈ p0, x.block < W.heap.size := by obtain ⟨m, hm⟩ := h0; exact DataW.trod_lt m _ _ _ hm
  obtain ⟨a0, o0, k0⟩ := arg_agg (shs := [.sl [.int .i64, .int .i64, .sl [.int .i64, .int .i64], .int .i64]]) 6 (by kernel_rfl) (by kernel_rfl) (hval 0 42 v0 rfl rfl) h0
  have lt1 : ∀ x ∈ p1, x.block < W.heap.size := by obtain ⟨m, hm⟩ := h1; exact DataW.trod_lt m _ _ _ hm
  obtain ⟨a1, o1, k1⟩ := arg_one (s := .sl [.int .i64]) 6 (by kernel_rfl) (by kernel_rfl) (hval 1 32 v1 rfl rfl) h1
  have lt2 : ∀ x ∈ p2, x.block < W.heap.size := by obtain ⟨m, hm⟩ := h2; exact DataW.trod_lt m _ _ _ hm
  obtain ⟨a2, o2, k2⟩ := arg_agg (shs := [.int .i64, .sl [.int .i64, .int .i64, .int .i64, .int .i64], .sl [.int .i64, .int .i64, .int .i64, .int .i64]]) 6 (by kernel_rfl) (by kernel_rfl) (hval 2 48 v2 rfl rfl) h2
  clear hA0 hval0 hsz0
  obtain ⟨xt, lt, rfl, yt, qt⟩ := Ops_cons o0
  obtain ⟨rows, rfl, lenrows, wrows⟩ := Op_sl rowC (fun _ => True) (fun c h => by obtain ⟨x, m, rfl, y, h1⟩ := Ops_cons h; obtain ⟨u, rfl, _⟩ := Op_int y; obtain ⟨x', m', rfl, y', h2⟩ := Ops_cons h1; obtain ⟨u', rfl, _⟩ := Op_int y'; obtain ⟨x2, m2, rfl, y2, h3⟩ := Ops_cons h2; obtain ⟨u2, rfl, _, _⟩ := Op_sl (fun p : Int × Int => [I p.1, I p.2]) (fun _ => True) (fun c h => by obtain ⟨x, m, rfl, y, h1⟩ := Ops_cons h; obtain ⟨u, rfl, _⟩ := Op_int y; obtain ⟨x', m', rfl, y', h2⟩ := Ops_cons h1; obtain ⟨u', rfl, _⟩ := Op_int y'; obtain rfl := Ops_nil h2; exact ⟨(u, u'), rfl, trivial⟩) y2; obtain ⟨x3, m3, rfl, y3, h4⟩ := Ops_cons h3; obtain ⟨u3, rfl, _⟩ := Op_int y3; obtain rfl := Ops_nil h4; exact ⟨(⟨u, u', u2, u3⟩ : Ro4), rfl, trivial⟩) yt
  obtain rfl := Ops_nil qt
  obtain ⟨line, rfl, lenline, wline⟩ := Op_sl (fun x : Int => [I x]) (fun _ => True) (fun c h => by obtain ⟨x, m, rfl, y, h1⟩ := Ops_cons h; obtain ⟨u, rfl, _⟩ := Op_int y; obtain rfl := Ops_nil h1; exact ⟨u, rfl, trivial⟩) o1
  obtain ⟨xm, lm, rfl, ym, qm⟩ := Ops_cons o2
  obtain ⟨z, rfl, wz⟩ := Op_int ym
  obtain ⟨xm1, lm1, rfl, ym1, qm1⟩ := Ops_cons qm
  obtain ⟨cs, rfl, lencs, wcs⟩ := Op_sl ruC (fun _ => True) (fun c h => by obtain ⟨x, m, rfl, y, h1⟩ := Ops_cons h; obtain ⟨u, rfl, _⟩ := Op_int y; obtain ⟨x', m', rfl, y', h2⟩ := Ops_cons h1; obtain ⟨u', rfl, _⟩ := Op_int y'; obtain ⟨x2, m2, rfl, y2, h3⟩ := Ops_cons h2; obtain ⟨u2, rfl, _⟩ := Op_int y2; obtain ⟨x3, m3, rfl, y3, h4⟩ := Ops_cons h3; obtain ⟨u3, rfl, _⟩ := Op_int y3; obtain rfl := Ops_nil h4; exact ⟨(⟨u, u', u2, u3⟩ : Ru), rfl, trivial⟩) ym1
  obtain ⟨xm2, lm2, rfl, ym2, qm2⟩ := Ops_cons qm1
  obtain ⟨rl, rfl, lenrl, wrl⟩ := Op_sl ruC (fun _ => True) (fun c h => by obtain ⟨x, m, rfl, y, h1⟩ := Ops_cons h; obtain ⟨u, rfl, _⟩ := Op_int y; obtain ⟨x', m', rfl, y', h2⟩ := Ops_cons h1; obtain ⟨u', rfl, _⟩ := Op_int y'; obtain ⟨x2, m2, rfl, y2, h3⟩ := Ops_cons h2; obtain ⟨u2, rfl, _⟩ := Op_int y2; obtain ⟨x3, m3, rfl, y3, h4⟩ := Ops_cons h3; obtain ⟨u3, rfl, _⟩ := Op_int y3; obtain rfl := Ops_nil h4; exact ⟨(⟨u, u', u2, u3⟩ : Ru), rfl, trivial⟩) ym2
  obtain rfl := Ops_nil qm2
  refine (PFun.law (w := W) (vs := #[v0, v1, v2]) (ligExecs rows line z cs rl) (.cons k0 (.cons k1 (.cons k2 .nil)))).mono fun e W' ⟨he, bel⟩ => ?_
  subst he
  exact ⟨_, rfl, _, _, _, [], _, [], hW', trodAll_mk1 (shut_bool Try.underlying4 _), (trodAll_cons_mk (Below.trod laidOut (by kernel_rfl) (of_decide_eq_true (by kernel_rfl)) h0 bel lt0) (trodAll_cons_mk (Below.trod laidOut (by kernel_rfl) (of_decide_eq_true (by kernel_rfl)) h1 bel lt1) (trodAll_cons_mk (Below.trod laidOut (by kernel_rfl) (of_decide_eq_true (by kernel_rfl)) h2 bel lt2) trodAll_mk0))), rfl, bel.frame _, fun h => by cases h⟩
theorem over : Rows.ligExecsRow.holds Try.pinned (OpenSpec.ofChange Rows.ligExecsSpec) :=
  OpenClaim.holds_of_wide 6 Try.f6 rfl rfl rfl rfl rfl rfl rfl ⟨rfl, rfl, rfl, rfl, rfl⟩ rfl rfl rfl rfl rfl (by kernel_rfl) Try.func6 (by kernel_rfl)
    (of_decide_eq_true (by kernel_rfl)) (by unfold Func.isWrapper; first | (rw [if_pos (by decide +kernel)]; kernel_rfl) | (rw [if_neg (by decide +kernel)]; exact ⟨rfl, rfl⟩))
    (fun os started H enc _ => lifted os started H enc)
end Go.Proofs.Ytdamfkckjcplcaa.ligExecsRow
namespace Go.Proofs.Ytdamfkckjcplcaa
/-- The statement. -/
theorem ligExecs_holds : Rows.LigExecsSaid := ligExecsRow.over
#print axioms ligExecs_holds
end Go.Proofs.Ytdamfkckjcplcaa

