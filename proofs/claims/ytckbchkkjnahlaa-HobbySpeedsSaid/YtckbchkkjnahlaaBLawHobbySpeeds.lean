/- The law HobbySpeeds of the given program answers true for every input, and its arguments read as before. Conditions: none. -/
import Derived.Test.YtckbchkkjnahlaaBTy
import Derived.Test.YtckbchkkjnahlaaBF1
import Derived.Test.YtckbchkkjnahlaaBF2
import Derived.Test.YtckbchkkjnahlaaBF3
import Derived.Test.YtckbchkkjnahlaaRows
import Derived.WalkKit
import Derived.ProofKit
import Derived.OpenShut
import Derived.ShutString
import Derived.ChangeOld
import Derived.Below
import Derived.SizedLaws
import Derived.Carry
namespace Go.Proofs.Ytckbchkkjnahlaa.hobbySpeedsRow
open Go Go.Eng Go.ChangeShapes Go.WideShapes Go.ChangeAt Go.RowKit
set_option linter.unusedVariables false
theorem own : ownKnob Try.prog.godebug = none := by kernel_rfl
theorem laidOut : laidOutB Try.prog = true := by kernel_rfl
set_option maxRecDepth 100000 in
theorem lifted (os : Os) (started : os.Started) (H : Type) (enc : TypeId × Value → H) :
    ReturnsInHanded {} Try.checked os 6 .any (Rows.hobbySpeedsSpec.pre6 enc Try.prog Try.f6 Rows.hobbySpeedsRow.domain false) (Rows.hobbySpeedsSpec.post enc Try.prog Try.f6 false true false false) := by
  refine returnsInHanded_of_change_sized (C := Try.checked) own started (by kernel_rfl) Try.func6
    (ChangeSpec.witness6 (enc := enc) (C := Try.checked) false ⟨#[], #[.agg #[.int .i64 0, .int .i64 0, .int .i64 0, .int .i64 0], .int .i64 0], []⟩ 8 (by kernel_rfl) (by kernel_rfl) (by kernel_rfl) (by kernel_rfl)) ?_
  intro W base args ds gs before hval0 hW hcnd hsz0 _
  have hval : ∀ (j : Nat) t v, Try.f6.params[j]? = some t → args[j]? = some v → Value.okWide Try.prog W .any base t v := hval0
  have hW' := hW
  obtain ⟨p, q, hA0, hV, rfl, hfz, hnd⟩ := hW
  have hA : DataW.TrodAll enc Try.prog W 0 (fun _ => true) true Try.f6.params.toList args.toList ds p := hA0
  rw [Try.params6] at hA hval
  obtain ⟨v0, vs0, d0, ds0, p0, q0, hargs, rfl, rfl, h0, r0⟩ := trodAll_cons hA
  obtain ⟨v1, vs1, d1, ds1, p1, q1, rfl, rfl, rfl, h1, r1⟩ := trodAll_cons r0
  obtain ⟨rfl, rfl, rfl⟩ := trodAll_nil r1
  obtain rfl : args = #[v0, v1] := by cases args; simp_all
  obtain ⟨rfl, rfl⟩ := trodVars_none hV
  have lt0 : ∀ x ∈ p0, x.block < W.heap.size := by obtain ⟨m, hm⟩ := h0; exact DataW.trod_lt m _ _ _ hm
  obtain ⟨a0, o0, k0⟩ := arg_agg (shs := [.int .i64, .int .i64, .int .i64, .int .i64]) 6 (by kernel_rfl) (by kernel_rfl) (hval 0 48 v0 rfl rfl) h0
  have lt1 : ∀ x ∈ p1, x.block < W.heap.size := by obtain ⟨m, hm⟩ := h1; exact DataW.trod_lt m _ _ _ hm
  obtain ⟨a1, o1, k1⟩ := arg_one (s := .int .i64) 2 (by kernel_rfl) (by kernel_rfl) (hval 1 3 v1 rfl rfl) h1
  clear hA0 hval0 hsz0
  obtain ⟨x0_0, m0_0, rfl, y0_0, h0_0⟩ := Ops_cons o0
  obtain ⟨a, rfl, _⟩ := Op_int y0_0
  obtain ⟨x0_1, m0_1, rfl, y0_1, h0_1⟩ := Ops_cons h0_0
  obtain ⟨b, rfl, _⟩ := Op_int y0_1
  obtain ⟨x0_2, m0_2, rfl, y0_2, h0_2⟩ := Ops_cons h0_1
  obtain ⟨c, rfl, _⟩ := Op_int y0_2
  obtain ⟨x0_3, m0_3, rfl, y0_3, h0_3⟩ := Ops_cons h0_2
  obtain ⟨d, rfl, _⟩ := Op_int y0_3
  obtain rfl := Ops_nil h0_3
  obtain ⟨t, rfl, wt⟩ := Op_int o1
  refine (PFun.law (w := W) (vs := #[v0, v1]) (hobbySpeeds a b c d t) (.cons k0 (.cons k1 .nil))).mono fun e W' ⟨he, bel⟩ => ?_
  subst he
  exact ⟨_, rfl, _, _, _, [], _, [], hW', trodAll_mk1 (shut_bool Try.underlying4 _), (trodAll_cons_mk (Below.trod laidOut (by kernel_rfl) (of_decide_eq_true (by kernel_rfl)) h0 bel lt0) (trodAll_cons_mk (Below.trod laidOut (by kernel_rfl) (of_decide_eq_true (by kernel_rfl)) h1 bel lt1) trodAll_mk0)), rfl, bel.frame _, fun h => by cases h⟩
theorem over : Rows.hobbySpeedsRow.holds Try.pinned (OpenSpec.ofChange Rows.hobbySpeedsSpec) :=
  OpenClaim.holds_of_wide 6 Try.f6 rfl rfl rfl rfl rfl rfl rfl ⟨rfl, rfl, rfl, rfl, rfl⟩ rfl rfl rfl rfl rfl (by kernel_rfl) Try.func6 (by kernel_rfl)
    (of_decide_eq_true (by kernel_rfl)) (by unfold Func.isWrapper; first | (rw [if_pos (by decide +kernel)]; kernel_rfl) | (rw [if_neg (by decide +kernel)]; exact ⟨rfl, rfl⟩))
    (fun os started H enc _ => lifted os started H enc)
end Go.Proofs.Ytckbchkkjnahlaa.hobbySpeedsRow
namespace Go.Proofs.Ytckbchkkjnahlaa
/-- The statement. -/
theorem hobbySpeeds_holds : Rows.HobbySpeedsSaid := hobbySpeedsRow.over
#print axioms hobbySpeeds_holds
end Go.Proofs.Ytckbchkkjnahlaa

