/- The law FlatNear of the given program answers true for every input, and its arguments read as before. Conditions: none. -/
import Derived.Test.YtdhdopmjaibggaaRows
import Derived.Test.YtdhdopmjaibggaaBF1
import Derived.Test.YtdhdopmjaibggaaBF2
import Derived.Test.YtdhdopmjaibggaaBF3
import Derived.Test.YtdhdopmjaibggaaBF4
import Derived.Test.YtdhdopmjaibggaaBF5
import Derived.Test.YtdhdopmjaibggaaBF6
import Derived.Test.YtdhdopmjaibggaaBF7
import Derived.Test.YtdhdopmjaibggaaBE6
import Derived.WalkKit
import Derived.ProofKit
import Derived.OpenShut
import Derived.ShutString
import Derived.ChangeOld
import Derived.Below
import Derived.SizedLaws
import Derived.Carry
namespace Go.Proofs.Ytdhdopmjaibggaa.flatNearRow
open Go Go.Eng Go.ChangeShapes Go.WideShapes Go.ChangeAt Go.RowKit
set_option linter.unusedVariables false
theorem own : ownKnob Try.prog.godebug = none := by kernel_rfl
theorem laidOut : laidOutB Try.prog = true := by kernel_rfl
set_option maxRecDepth 100000 in
theorem lifted (os : Os) (started : os.Started) (H : Type) (enc : TypeId × Value → H) :
    ReturnsInHanded {} Try.checked os 7 .any (Rows.flatNearSpec.pre6 enc Try.prog Try.f7 Rows.flatNearRow.domain false) (Rows.flatNearSpec.post enc Try.prog Try.f7 false true false false) := by
  refine returnsInHanded_of_change_sized (C := Try.checked) own started (by kernel_rfl) Try.func7
    (ChangeSpec.witness6 (enc := enc) (C := Try.checked) false ⟨#[], #[.agg #[.int .i64 0, .int .i64 0, .int .i64 0, .int .i64 0, .int .i64 0, .int .i64 0, .int .i64 0, .int .i64 0]], []⟩ 8 (by kernel_rfl) (by kernel_rfl) (by kernel_rfl) (by kernel_rfl)) ?_
  intro W base args ds gs before hval0 hW hcnd hsz0 _
  have hval : ∀ (j : Nat) t v, Try.f7.params[j]? = some t → args[j]? = some v → Value.okWide Try.prog W .any base t v := hval0
  have hW' := hW
  obtain ⟨p, q, hA0, hV, rfl, hfz, hnd⟩ := hW
  have hA : DataW.TrodAll enc Try.prog W 0 (fun _ => true) true Try.f7.params.toList args.toList ds p := hA0
  rw [Try.params7] at hA hval
  obtain ⟨v0, vs0, d0, ds0, p0, q0, hargs, rfl, rfl, h0, r0⟩ := trodAll_cons hA
  obtain ⟨rfl, rfl, rfl⟩ := trodAll_nil r0
  obtain rfl : args = #[v0] := by cases args; simp_all
  obtain ⟨rfl, rfl⟩ := trodVars_none hV
  have lt0 : ∀ x ∈ p0, x.block < W.heap.size := by obtain ⟨m, hm⟩ := h0; exact DataW.trod_lt m _ _ _ hm
  obtain ⟨a0, o0, k0⟩ := arg_agg (shs := [.int .i64, .int .i64, .int .i64, .int .i64, .int .i64, .int .i64, .int .i64, .int .i64]) 6 (by kernel_rfl) (by kernel_rfl) (hval 0 24 v0 rfl rfl) h0
  clear hA0 hval0 hsz0
  obtain ⟨x0_0, l0_0, rfl, y0_0, q0_0⟩ := Ops_cons o0
  obtain ⟨n0, rfl, w0_0⟩ := Op_int y0_0
  obtain ⟨x0_1, l0_1, rfl, y0_1, q0_1⟩ := Ops_cons q0_0
  obtain ⟨n1, rfl, w0_1⟩ := Op_int y0_1
  obtain ⟨x0_2, l0_2, rfl, y0_2, q0_2⟩ := Ops_cons q0_1
  obtain ⟨n2, rfl, w0_2⟩ := Op_int y0_2
  obtain ⟨x0_3, l0_3, rfl, y0_3, q0_3⟩ := Ops_cons q0_2
  obtain ⟨n3, rfl, w0_3⟩ := Op_int y0_3
  obtain ⟨x0_4, l0_4, rfl, y0_4, q0_4⟩ := Ops_cons q0_3
  obtain ⟨n4, rfl, w0_4⟩ := Op_int y0_4
  obtain ⟨x0_5, l0_5, rfl, y0_5, q0_5⟩ := Ops_cons q0_4
  obtain ⟨n5, rfl, w0_5⟩ := Op_int y0_5
  obtain ⟨x0_6, l0_6, rfl, y0_6, q0_6⟩ := Ops_cons q0_5
  obtain ⟨n6, rfl, w0_6⟩ := Op_int y0_6
  obtain ⟨x0_7, l0_7, rfl, y0_7, q0_7⟩ := Ops_cons q0_6
  obtain ⟨n7, rfl, w0_7⟩ := Op_int y0_7
  obtain rfl := Ops_nil q0_7
  refine (PFun.law (w := W) (vs := #[v0]) (flatNear (n0, n1) (n2, n3) (n4, n5) (n6, n7)) (.cons k0 .nil)).mono fun e W' ⟨he, bel⟩ => ?_
  subst he
  exact ⟨_, rfl, _, _, _, [], _, [], hW', trodAll_mk1 (shut_bool Try.underlying4 _), (trodAll_cons_mk (Below.trod laidOut (by kernel_rfl) (of_decide_eq_true (by kernel_rfl)) h0 bel lt0) trodAll_mk0), rfl, bel.frame _, fun h => by cases h⟩
theorem over : Rows.flatNearRow.holds Try.pinned (OpenSpec.ofChange Rows.flatNearSpec) :=
  OpenClaim.holds_of_wide 7 Try.f7 rfl rfl rfl rfl rfl rfl rfl ⟨rfl, rfl, rfl, rfl, rfl⟩ rfl rfl rfl rfl rfl (by kernel_rfl) Try.func7 (by kernel_rfl)
    (of_decide_eq_true (by kernel_rfl)) (by unfold Func.isWrapper; first | (rw [if_pos (by decide +kernel)]; kernel_rfl) | (rw [if_neg (by decide +kernel)]; exact ⟨rfl, rfl⟩))
    (fun os started H enc _ => lifted os started H enc)
end Go.Proofs.Ytdhdopmjaibggaa.flatNearRow
namespace Go.Proofs.Ytdhdopmjaibggaa
/-- The statement. -/
theorem flatNear_holds : Rows.FlatNearSaid := flatNearRow.over
#print axioms flatNear_holds
end Go.Proofs.Ytdhdopmjaibggaa

