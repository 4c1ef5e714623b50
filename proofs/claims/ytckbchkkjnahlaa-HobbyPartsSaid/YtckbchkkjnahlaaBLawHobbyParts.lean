/- The law HobbyParts of the given program answers true for every input, and its arguments read as before. Conditions: none. -/
import Derived.Test.YtckbchkkjnahlaaBTy
import Derived.Test.YtckbchkkjnahlaaBF1
import Derived.Test.YtckbchkkjnahlaaBF2
import Derived.Test.YtckbchkkjnahlaaBF3
import Derived.Test.YtckbchkkjnahlaaBF4
import Derived.Test.YtckbchkkjnahlaaBF5
import Derived.Test.YtckbchkkjnahlaaBF6
import Derived.Test.YtckbchkkjnahlaaBF7
import Derived.Test.YtckbchkkjnahlaaRows
import Derived.WalkKit
import Derived.ProofKit
import Derived.OpenShut
import Derived.ShutString
import Derived.ChangeOld
import Derived.Below
import Derived.SizedLaws
import Derived.Carry
namespace Go.Proofs.Ytckbchkkjnahlaa.hobbyPartsRow
open Go Go.Eng Go.ChangeShapes Go.WideShapes Go.ChangeAt Go.RowKit
set_option linter.unusedVariables false
theorem own : ownKnob Try.prog.godebug = none := by kernel_rfl
theorem laidOut : laidOutB Try.prog = true := by kernel_rfl
set_option maxRecDepth 100000 in
theorem lifted (os : Os) (started : os.Started) (H : Type) (enc : TypeId × Value → H) :
    ReturnsInHanded {} Try.checked os 9 .any (Rows.hobbyPartsSpec.pre6 enc Try.prog Try.f9 Rows.hobbyPartsRow.domain false) (Rows.hobbyPartsSpec.post enc Try.prog Try.f9 false true false false) := by
  refine returnsInHanded_of_change_sized (C := Try.checked) own started (by kernel_rfl) Try.func9
    (ChangeSpec.witness6 (enc := enc) (C := Try.checked) false ⟨#[], #[.slice none 0 0, .int .u8 0], []⟩ 8 (by kernel_rfl) (by kernel_rfl) (by kernel_rfl) (by kernel_rfl)) ?_
  intro W base args ds gs before hval0 hW hcnd hsz0 _
  have hval : ∀ (j : Nat) t v, Try.f9.params[j]? = some t → args[j]? = some v → Value.okWide Try.prog W .any base t v := hval0
  have hW' := hW
  obtain ⟨p, q, hA0, hV, rfl, hfz, hnd⟩ := hW
  have hA : DataW.TrodAll enc Try.prog W 0 (fun _ => true) true Try.f9.params.toList args.toList ds p := hA0
  rw [Try.params9] at hA hval
  obtain ⟨v0, vs0, d0, ds0, p0, q0, hargs, rfl, rfl, h0, r0⟩ := trodAll_cons hA
  obtain ⟨v1, vs1, d1, ds1, p1, q1, rfl, rfl, rfl, h1, r1⟩ := trodAll_cons r0
  obtain ⟨rfl, rfl, rfl⟩ := trodAll_nil r1
  obtain rfl : args = #[v0, v1] := by cases args; simp_all
  obtain ⟨rfl, rfl⟩ := trodVars_none hV
  have lt0 : ∀ x ∈ p0, x.block < W.heap.size := by obtain ⟨m, hm⟩ := h0; exact DataW.trod_lt m _ _ _ hm
  obtain ⟨a0, o0, k0⟩ := arg_one (s := .sl [.int .i64, .int .i64, .int .i64, .int .i64, .int .i64, .int .i64, .int .i64, .int .i64, .int .i64, .int .i64, .int .i64, .int .i64]) 6 (by kernel_rfl) (by kernel_rfl) (hval 0 25 v0 rfl rfl) h0
  have lt1 : ∀ x ∈ p1, x.block < W.heap.size := by obtain ⟨m, hm⟩ := h1; exact DataW.trod_lt m _ _ _ hm
  obtain ⟨a1, o1, k1⟩ := arg_one (s := .int .u8) 2 (by kernel_rfl) (by kernel_rfl) (hval 1 5 v1 rfl rfl) h1
  clear hA0 hval0 hsz0
  obtain ⟨l, rfl, lenl, wl⟩ := Op_sl KnC (fun _ => True) (fun c h => by obtain ⟨x0, m0, rfl, y0, h0⟩ := Ops_cons h; obtain ⟨u0, rfl, _⟩ := Op_int y0; obtain ⟨x1, m1, rfl, y1, h1⟩ := Ops_cons h0; obtain ⟨u1, rfl, _⟩ := Op_int y1; obtain ⟨x2, m2, rfl, y2, h2⟩ := Ops_cons h1; obtain ⟨u2, rfl, _⟩ := Op_int y2; obtain ⟨x3, m3, rfl, y3, h3⟩ := Ops_cons h2; obtain ⟨u3, rfl, _⟩ := Op_int y3; obtain ⟨x4, m4, rfl, y4, h4⟩ := Ops_cons h3; obtain ⟨u4, rfl, _⟩ := Op_int y4; obtain ⟨x5, m5, rfl, y5, h5⟩ := Ops_cons h4; obtain ⟨u5, rfl, _⟩ := Op_int y5; obtain ⟨x6, m6, rfl, y6, h6⟩ := Ops_cons h5; obtain ⟨u6, rfl, _⟩ := Op_int y6; obtain ⟨x7, m7, rfl, y7, h7⟩ := Ops_cons h6; obtain ⟨u7, rfl, _⟩ := Op_int y7; obtain ⟨x8, m8, rfl, y8, h8⟩ := Ops_cons h7; obtain ⟨u8, rfl, _⟩ := Op_int y8; obtain ⟨x9, m9, rfl, y9, h9⟩ := Ops_cons h8; obtain ⟨u9, rfl, _⟩ := Op_int y9; obtain ⟨x10, m10, rfl, y10, h10⟩ := Ops_cons h9; obtain ⟨u10, rfl, _⟩ := Op_int y10; obtain ⟨x11, m11, rfl, y11, h11⟩ := Ops_cons h10; obtain ⟨u11, rfl, _⟩ := Op_int y11; obtain rfl := Ops_nil h11; exact ⟨(⟨u0, u1, ⟨u2, u3, u4, u5, u6⟩, ⟨u7, u8, u9, u10, u11⟩⟩ : Kn), rfl, trivial⟩) o0
  obtain ⟨a, rfl, wa⟩ := Op_int o1
  refine (PFun.law (w := W) (vs := #[v0, v1]) (hobbyParts l a (u8_wf wa)) (.cons k0 (.cons k1 .nil))).mono fun e W' ⟨he, bel⟩ => ?_
  subst he
  exact ⟨_, rfl, _, _, _, [], _, [], hW', trodAll_mk1 (shut_bool Try.underlying4 _), (trodAll_cons_mk (Below.trod laidOut (by kernel_rfl) (of_decide_eq_true (by kernel_rfl)) h0 bel lt0) (trodAll_cons_mk (Below.trod laidOut (by kernel_rfl) (of_decide_eq_true (by kernel_rfl)) h1 bel lt1) trodAll_mk0)), rfl, bel.frame _, fun h => by cases h⟩
theorem over : Rows.hobbyPartsRow.holds Try.pinned (OpenSpec.ofChange Rows.hobbyPartsSpec) :=
  OpenClaim.holds_of_wide 9 Try.f9 rfl rfl rfl rfl rfl rfl rfl ⟨rfl, rfl, rfl, rfl, rfl⟩ rfl rfl rfl rfl rfl (by kernel_rfl) Try.func9 (by kernel_rfl)
    (of_decide_eq_true (by kernel_rfl)) (by unfold Func.isWrapper; first | (rw [if_pos (by decide +kernel)]; kernel_rfl) | (rw [if_neg (by decide +kernel)]; exact ⟨rfl, rfl⟩))
    (fun os started H enc _ => lifted os started H enc)
end Go.Proofs.Ytckbchkkjnahlaa.hobbyPartsRow
namespace Go.Proofs.Ytckbchkkjnahlaa
theorem hobbyParts_holds : Rows.HobbyPartsSaid := hobbyPartsRow.over
#print axioms hobbyParts_holds
end Go.Proofs.Ytckbchkkjnahlaa

