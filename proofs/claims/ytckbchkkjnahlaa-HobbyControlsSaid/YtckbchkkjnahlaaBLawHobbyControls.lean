/- The law HobbyControls of the given program answers true for every input, and its arguments read as before. Conditions: none. -/
import Derived.Test.YtckbchkkjnahlaaBTy
import Derived.Test.YtckbchkkjnahlaaBF1
import Derived.Test.YtckbchkkjnahlaaBF2
import Derived.Test.YtckbchkkjnahlaaBF3
import Derived.Test.YtckbchkkjnahlaaRows
import Derived.WalkKit
import Derived.ProofKit
import Derived.OpenShut
import Derived.ShutString
import Derived.ChangeOld
import Derived.Below
import Derived.SizedLaws
import Derived.Carry
namespace Go.Proofs.Ytckbchkkjnahlaa.hobbyControlsRow
open Go Go.Eng Go.ChangeShapes Go.WideShapes Go.ChangeAt Go.RowKit
set_option linter.unusedVariables false
theorem own : ownKnob Try.prog.godebug = none := by kernel_rfl
theorem laidOut : laidOutB Try.prog = true := by kernel_rfl
set_option maxRecDepth 100000 in
theorem lifted (os : Os) (started : os.Started) (H : Type) (enc : TypeId × Value → H) :
    ReturnsInHanded {} Try.checked os 7 .any (Rows.hobbyControlsSpec.pre6 enc Try.prog Try.f7 Rows.hobbyControlsRow.domain false) (Rows.hobbyControlsSpec.post enc Try.prog Try.f7 false true false false) := by
  refine returnsInHanded_of_change_sized (C := Try.checked) own started (by kernel_rfl) Try.func7
    (ChangeSpec.witness6 (enc := enc) (C := Try.checked) false ⟨#[], #[.agg #[.int .i64 0, .int .i64 0], .agg #[.int .i64 0, .int .i64 0], .agg #[.int .i64 0, .int .i64 0, .int .i64 0, .int .i64 0]], []⟩ 8 (by kernel_rfl) (by kernel_rfl) (by kernel_rfl) (by kernel_rfl)) ?_
  intro W base args ds gs before hval0 hW hcnd hsz0 _
  have hval : ∀ (j : Nat) t v, Try.f7.params[j]? = some t → args[j]? = some v → Value.okWide Try.prog W .any base t v := hval0
  have hW' := hW
  obtain ⟨p, q, hA0, hV, rfl, hfz, hnd⟩ := hW
  have hA : DataW.TrodAll enc Try.prog W 0 (fun _ => true) true Try.f7.params.toList args.toList ds p := hA0
  rw [Try.params7] at hA hval
  obtain ⟨v0, vs0, d0, ds0, p0, q0, hargs, rfl, rfl, h0, r0⟩ := trodAll_cons hA
  obtain ⟨v1, vs1, d1, ds1, p1, q1, rfl, rfl, rfl, h1, r1⟩ := trodAll_cons r0
  obtain ⟨v2, vs2, d2, ds2, p2, q2, rfl, rfl, rfl, h2, r2⟩ := trodAll_cons r1
  obtain ⟨rfl, rfl, rfl⟩ := trodAll_nil r2
  obtain rfl : args = #[v0, v1, v2] := by cases args; simp_all
  obtain ⟨rfl, rfl⟩ := trodVars_none hV
  have lt0 : ∀ x ∈ p0, x.block < W.heap.size := by obtain ⟨m, hm⟩ := h0; exact DataW.trod_lt m _ _ _ hm
  obtain ⟨a0, o0, k0⟩ := arg_agg (shs := [.int .i64, .int .i64]) 6 (by kernel_rfl) (by kernel_rfl) (hval 0 27 v0 rfl rfl) h0
  have lt1 : ∀ x ∈ p1, x.block < W.heap.size := by obtain ⟨m, hm⟩ := h1; exact DataW.trod_lt m _ _ _ hm
  obtain ⟨a1, o1, k1⟩ := arg_agg (shs := [.int .i64, .int .i64]) 6 (by kernel_rfl) (by kernel_rfl) (hval 1 27 v1 rfl rfl) h1
  have lt2 : ∀ x ∈ p2, x.block < W.heap.size := by obtain ⟨m, hm⟩ := h2; exact DataW.trod_lt m _ _ _ hm
  obtain ⟨a2, o2, k2⟩ := arg_agg (shs := [.int .i64, .int .i64, .int .i64, .int .i64]) 6 (by kernel_rfl) (by kernel_rfl) (hval 2 48 v2 rfl rfl) h2
  clear hA0 hval0 hsz0
  obtain ⟨x0_0, m0_0, rfl, y0_0, h0_0⟩ := Ops_cons o0
  obtain ⟨z1, rfl, _⟩ := Op_int y0_0
  obtain ⟨x0_1, m0_1, rfl, y0_1, h0_1⟩ := Ops_cons h0_0
  obtain ⟨z2, rfl, _⟩ := Op_int y0_1
  obtain rfl := Ops_nil h0_1
  obtain ⟨x1_0, m1_0, rfl, y1_0, h1_0⟩ := Ops_cons o1
  obtain ⟨w1, rfl, _⟩ := Op_int y1_0
  obtain ⟨x1_1, m1_1, rfl, y1_1, h1_1⟩ := Ops_cons h1_0
  obtain ⟨w2, rfl, _⟩ := Op_int y1_1
  obtain rfl := Ops_nil h1_1
  obtain ⟨x2_0, m2_0, rfl, y2_0, h2_0⟩ := Ops_cons o2
  obtain ⟨a, rfl, _⟩ := Op_int y2_0
  obtain ⟨x2_1, m2_1, rfl, y2_1, h2_1⟩ := Ops_cons h2_0
  obtain ⟨b, rfl, _⟩ := Op_int y2_1
  obtain ⟨x2_2, m2_2, rfl, y2_2, h2_2⟩ := Ops_cons h2_1
  obtain ⟨c, rfl, _⟩ := Op_int y2_2
  obtain ⟨x2_3, m2_3, rfl, y2_3, h2_3⟩ := Ops_cons h2_2
  obtain ⟨d, rfl, _⟩ := Op_int y2_3
  obtain rfl := Ops_nil h2_3
  refine (PFun.law (w := W) (vs := #[v0, v1, v2]) (hobbyControls (z1, z2) (w1, w2) a b c d) (.cons k0 (.cons k1 (.cons k2 .nil)))).mono fun e W' ⟨he, bel⟩ => ?_
  subst he
  exact ⟨_, rfl, _, _, _, [], _, [], hW', trodAll_mk1 (shut_bool Try.underlying4 _), (trodAll_cons_mk (Below.trod laidOut (by kernel_rfl) (of_decide_eq_true (by kernel_rfl)) h0 bel lt0) (trodAll_cons_mk (Below.trod laidOut (by kernel_rfl) (of_decide_eq_true (by kernel_rfl)) h1 bel lt1) (trodAll_cons_mk (Below.trod laidOut (by kernel_rfl) (of_decide_eq_true (by kernel_rfl)) h2 bel lt2) trodAll_mk0))), rfl, bel.frame _, fun h => by cases h⟩
theorem over : Rows.hobbyControlsRow.holds Try.pinned (OpenSpec.ofChange Rows.hobbyControlsSpec) :=
  OpenClaim.holds_of_wide 7 Try.f7 rfl rfl rfl rfl rfl rfl rfl ⟨rfl, rfl, rfl, rfl, rfl⟩ rfl rfl rfl rfl rfl (by kernel_rfl) Try.func7 (by kernel_rfl)
    (of_decide_eq_true (by kernel_rfl)) (by unfold Func.isWrapper; first | (rw [if_pos (by decide +kernel)]; kernel_rfl) | (rw [if_neg (by decide +kernel)]; exact ⟨rfl, rfl⟩))
    (fun os started H enc _ => lifted os started H enc)
end Go.Proofs.Ytckbchkkjnahlaa.hobbyControlsRow
namespace Go.Proofs.Ytckbchkkjnahlaa
/-- The statement. -/
theorem hobbyControls_holds : Rows.HobbyControlsSaid := hobbyControlsRow.over
#print axioms hobbyControls_holds
end Go.Proofs.Ytckbchkkjnahlaa

