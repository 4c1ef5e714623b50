/- The law RasterOver of the given program answers true for every input, and its arguments read as before: the row, and its tied card. Conditions: two package-level variables start as the program's text lays them (the card ties them). -/
import Derived.Test.YtfmlhmfbhcfnpaaDoorBTy
import Derived.Test.YtfmlhmfbhcfnpaaDoorBF1
import Derived.Test.YtfmlhmfbhcfnpaaDoorBF2
import Derived.Test.YtfmlhmfbhcfnpaaDoorBF3
import Derived.Test.YtfmlhmfbhcfnpaaDoorBF4
import Derived.Test.YtfmlhmfbhcfnpaaDoorBF5
import Derived.Test.YtfmlhmfbhcfnpaaDoorTie
import Derived.Test.YtfmlhmfbhcfnpaaDoorCards
import Derived.WalkKit
import Derived.ProofKit
import Derived.OpenShut
import Derived.ShutString
import Derived.ChangeOld
import Derived.Below
import Derived.SizedLaws
import Derived.Carry
import Derived.LaidMore
import Derived.Lay
import Derived.SevenTiedAt
import Derived.Stop.Joined
namespace Go.Proofs.YtfmlhmfbhcfnpaaDoor.rasterOverRow
open Go Go.Eng Go.ChangeShapes Go.WideShapes Go.ChangeAt Go.RowKit
set_option linter.unusedVariables false
theorem own : ownKnob Tryd.prog.godebug = none := by kernel_rfl
theorem laidOut : laidOutB Tryd.prog = true := by kernel_rfl
set_option maxRecDepth 100000 in
theorem lifted (os : Os) (started : os.Started) (H : Type) (enc : TypeId × Value → H) :
    ReturnsInHanded {} Tryd.checked os 7 .any (fun w args => (Rows.rasterOverSpec.pre enc Tryd.prog Tryd.f7 Rows.rasterOverRow.domain false w args ∧ laidMetH Tryd.prog Rows.rasterOverRow.laid w) ∧ sizedMet enc Tryd.prog Tryd.f7 (OpenSpec.ofChange Rows.rasterOverSpec) false w args) (Rows.rasterOverSpec.post enc Tryd.prog Tryd.f7 false true false false) := by
  refine returnsInHanded_of_change_and (C := Tryd.checked) (X := fun w _ => laidMetH Tryd.prog Rows.rasterOverRow.laid w) (fun _ _ _ hh h => h.of_heap hh) own started (by kernel_rfl) Tryd.func7
    (ChangeSpec.witness_shaped (enc := enc) (C := Tryd.checked) (os := os) (X := fun w _ => laidMetH Tryd.prog Rows.rasterOverRow.laid w) false (World.laidAll Tryd.prog os Rows.rasterOverRow.laid) #[.agg #[.int .i64 0, .int .i64 0, .slice none 0 0], .agg #[.int .i64 0, .int .i64 0, .slice none 0 0], .agg #[.int .i64 0, .int .i64 0]] 8 (World.laidAll_os _ _ _)
      (World.shaped_of_ZipB (by kernel_rfl) (by kernel_rfl)) (by kernel_rfl) (by kernel_rfl) (by kernel_rfl)
      (by rw [MakeChecks.laidMetH_plain _ _ _ (by kernel_rfl)]; exact laidMet_laidAll _ (by kernel_rfl) (by kernel_rfl))) ?_
  intro W base args ds gs before hval0 hW hcnd hsz0 hL _
  have hval : ∀ (j : Nat) t v, Tryd.f7.params[j]? = some t → args[j]? = some v → Value.okWide Tryd.prog W .any base t v := hval0
  have hW' := hW
  obtain ⟨p, q, hA0, hV, rfl, hfz, hnd⟩ := hW
  have hA : DataW.TrodAll enc Tryd.prog W 0 (fun _ => true) true Tryd.f7.params.toList args.toList ds p := hA0
  rw [Tryd.params7] at hA hval
  obtain ⟨v0, vs0, d0, ds0, p0, q0, hargs, rfl, rfl, h0, r0⟩ := trodAll_cons hA
  obtain ⟨v1, vs1, d1, ds1, p1, q1, rfl, rfl, rfl, h1, r1⟩ := trodAll_cons r0
  obtain ⟨v2, vs2, d2, ds2, p2, q2, rfl, rfl, rfl, h2, r2⟩ := trodAll_cons r1
  obtain ⟨rfl, rfl, rfl⟩ := trodAll_nil r2
  obtain rfl : args = #[v0, v1, v2] := by cases args; simp_all
  obtain ⟨rfl, rfl⟩ := trodVars_none hV
  have lt0 : ∀ x ∈ p0, x.block < W.heap.size := by obtain ⟨m, hm⟩ := h0; exact DataW.trod_lt m _ _ _ hm
  obtain ⟨a0, o0, k0⟩ := arg_agg (shs := [.int .i64, .int .i64, .sl [.int .u8]]) 6 (by kernel_rfl) (by kernel_rfl) (hval 0 25 v0 rfl rfl) h0
  have lt1 : ∀ x ∈ p1, x.block < W.heap.size := by obtain ⟨m, hm⟩ := h1; exact DataW.trod_lt m _ _ _ hm
  obtain ⟨a1, o1, k1⟩ := arg_agg (shs := [.int .i64, .int .i64, .sl [.int .u8]]) 6 (by kernel_rfl) (by kernel_rfl) (hval 1 25 v1 rfl rfl) h1
  have lt2 : ∀ x ∈ p2, x.block < W.heap.size := by obtain ⟨m, hm⟩ := h2; exact DataW.trod_lt m _ _ _ hm
  obtain ⟨a2, o2, k2⟩ := arg_agg (shs := [.int .i64, .int .i64]) 6 (by kernel_rfl) (by kernel_rfl) (hval 2 50 v2 rfl rfl) h2
  clear hA0 hval0 hsz0 hL
  obtain ⟨x0_0, m0_0, rfl, y0_0, h0_0⟩ := Ops_cons o0
  obtain ⟨x0_1, m0_1, rfl, y0_1, h0_1⟩ := Ops_cons h0_0
  obtain ⟨x0_2, m0_2, rfl, y0_2, h0_2⟩ := Ops_cons h0_1
  obtain ⟨rw, rfl, _⟩ := Op_int y0_0
  obtain ⟨rh, rfl, _⟩ := Op_int y0_1
  obtain ⟨rp, rfl, lenr, okr⟩ := Op_sl (fun x : Int => [U x]) (fun x => 0 ≤ x ∧ x ≤ 255) (fun c h => by obtain ⟨x0, m0, rfl, y0, h0⟩ := Ops_cons h; obtain ⟨u0, rfl, w0⟩ := Op_int y0; obtain rfl := Ops_nil h0; exact ⟨u0, rfl, u8_wf w0⟩) y0_2
  obtain rfl := Ops_nil h0_2
  obtain ⟨x1_0, m1_0, rfl, y1_0, h1_0⟩ := Ops_cons o1
  obtain ⟨x1_1, m1_1, rfl, y1_1, h1_1⟩ := Ops_cons h1_0
  obtain ⟨x1_2, m1_2, rfl, y1_2, h1_2⟩ := Ops_cons h1_1
  obtain ⟨sw, rfl, _⟩ := Op_int y1_0
  obtain ⟨sh, rfl, _⟩ := Op_int y1_1
  obtain ⟨sp, rfl, lens, oks⟩ := Op_sl (fun x : Int => [U x]) (fun x => 0 ≤ x ∧ x ≤ 255) (fun c h => by obtain ⟨x0, m0, rfl, y0, h0⟩ := Ops_cons h; obtain ⟨u0, rfl, w0⟩ := Op_int y0; obtain rfl := Ops_nil h0; exact ⟨u0, rfl, u8_wf w0⟩) y1_2
  obtain rfl := Ops_nil h1_2
  obtain ⟨x2_0, m2_0, rfl, y2_0, h2_0⟩ := Ops_cons o2
  obtain ⟨a, rfl, wa⟩ := Op_int y2_0
  obtain ⟨x2_1, m2_1, rfl, y2_1, h2_1⟩ := Ops_cons h2_0
  obtain ⟨b, rfl, wb⟩ := Op_int y2_1
  obtain rfl := Ops_nil h2_1
  refine (PFun.law (w := W) (vs := #[v0, v1, v2]) (over7 ⟨rw, rh, rp⟩ ⟨sw, sh, sp⟩ okr oks a b) (.cons k0 (.cons k1 (.cons k2 .nil)))).mono fun e W' ⟨he, bel⟩ => ?_
  subst he
  exact ⟨_, rfl, _, _, _, [], _, [], hW', trodAll_mk1 (shut_bool Tryd.underlying4 _), (trodAll_cons_mk (Below.trod laidOut (by kernel_rfl) (of_decide_eq_true (by kernel_rfl)) h0 bel lt0) (trodAll_cons_mk (Below.trod laidOut (by kernel_rfl) (of_decide_eq_true (by kernel_rfl)) h1 bel lt1) (trodAll_cons_mk (Below.trod laidOut (by kernel_rfl) (of_decide_eq_true (by kernel_rfl)) h2 bel lt2) trodAll_mk0))), rfl, bel.frame _, fun h => by cases h⟩
theorem over : Rows.rasterOverRow.holds Tryd.pinned (OpenSpec.ofChange Rows.rasterOverSpec) :=
  OpenClaim.holds_of_wide 7 Tryd.f7 rfl rfl rfl rfl rfl rfl rfl ⟨rfl, rfl, rfl, rfl, rfl⟩ rfl rfl rfl rfl rfl (by kernel_rfl) Tryd.func7 (by kernel_rfl)
    (of_decide_eq_true (by kernel_rfl)) (by unfold Func.isWrapper; first | (rw [if_pos (by decide +kernel)]; kernel_rfl) | (rw [if_neg (by decide +kernel)]; exact ⟨rfl, rfl⟩))
    (fun os started H enc _ => lifted os started H enc)
end Go.Proofs.YtfmlhmfbhcfnpaaDoor.rasterOverRow
namespace Go.Proofs.YtfmlhmfbhcfnpaaDoor
open Go
/-- The statement: the tied card. -/
theorem rasterOver_holds : Rows.RasterOverCardSaid :=
  Claim7.holds_tied_plain_at .later [] [.data, .pinned] true (true, "574faa45a3533286245555659c522e19a46158fe5192dc0d4b3e199697c6f072") false rasterOverRow.over (fun _ h => by cases h) (by kernel_rfl) (fun _ h => by cases h) rasterOver_row_tie rfl ⟨rfl, rfl⟩ (by kernel_rfl) rfl
    (fun f fn hf hfn => by
      obtain rfl : f = 7 := Option.some.inj ((show Tryd.prog.funcNamed "fleuron/fleuronlaw20.RasterOver" = some 7 by kernel_rfl).symm.trans hf) |>.symm
      obtain rfl : fn = Tryd.f7 := (Option.some.inj (Tryd.func7.symm.trans hfn)).symm
      exact ⟨by kernel_rfl, fun j t ht => by
        rw [Tryd.params7] at ht
        have hm : t ∈ [25, 25, 50] := by simpa using Array.mem_of_getElem? ht
        have hall : ([25, 25, 50].all fun u => !Tryd.prog.wantsStandIn u) = true := by kernel_rfl
        exact (show Tryd.prog.wantsStandIn t = false by simpa using List.all_eq_true.1 hall t hm)⟩)
    (by kernel_rfl)
#print axioms rasterOver_holds
end Go.Proofs.YtfmlhmfbhcfnpaaDoor

