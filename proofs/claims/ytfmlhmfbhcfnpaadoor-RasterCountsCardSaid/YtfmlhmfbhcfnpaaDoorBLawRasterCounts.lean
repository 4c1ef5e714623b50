/- The law RasterCounts of the given program answers true for every input, and its arguments read as before: the row, and its tied card. Conditions: two package-level variables start as the program's text lays them (the card ties them). -/
import Derived.Test.YtfmlhmfbhcfnpaaDoorBTy
import Derived.Test.YtfmlhmfbhcfnpaaDoorBF1
import Derived.Test.YtfmlhmfbhcfnpaaDoorBF2
import Derived.Test.YtfmlhmfbhcfnpaaDoorBF3
import Derived.Test.YtfmlhmfbhcfnpaaDoorBF4
import Derived.Test.YtfmlhmfbhcfnpaaDoorBF5
import Derived.Test.YtfmlhmfbhcfnpaaDoorTie
import Derived.Test.YtfmlhmfbhcfnpaaDoorCards
import Derived.WalkKit
import Derived.ProofKit
import Derived.OpenShut
import Derived.ShutString
import Derived.ChangeOld
import Derived.Below
import Derived.SizedLaws
import Derived.Carry
import Derived.LaidMore
import Derived.Lay
import Derived.SevenTiedAt
import Derived.Stop.Joined
namespace Go.Proofs.YtfmlhmfbhcfnpaaDoor.rasterCountsRow
open Go Go.Eng Go.ChangeShapes Go.WideShapes Go.ChangeAt Go.RowKit
set_option linter.unusedVariables false
theorem own : ownKnob Tryd.prog.godebug = none := by kernel_rfl
theorem laidOut : laidOutB Tryd.prog = true := by kernel_rfl
set_option maxRecDepth 100000 in
theorem lifted (os : Os) (started : os.Started) (H : Type) (enc : TypeId × Value → H) :
    ReturnsInHanded {} Tryd.checked os 9 .any (fun w args => (Rows.rasterCountsSpec.pre enc Tryd.prog Tryd.f9 Rows.rasterCountsRow.domain false w args ∧ laidMetH Tryd.prog Rows.rasterCountsRow.laid w) ∧ sizedMet enc Tryd.prog Tryd.f9 (OpenSpec.ofChange Rows.rasterCountsSpec) false w args) (Rows.rasterCountsSpec.post enc Tryd.prog Tryd.f9 false true false false) := by
  refine returnsInHanded_of_change_and (C := Tryd.checked) (X := fun w _ => laidMetH Tryd.prog Rows.rasterCountsRow.laid w) (fun _ _ _ hh h => h.of_heap hh) own started (by kernel_rfl) Tryd.func9
    (ChangeSpec.witness_shaped (enc := enc) (C := Tryd.checked) (os := os) (X := fun w _ => laidMetH Tryd.prog Rows.rasterCountsRow.laid w) false (World.laidAll Tryd.prog os Rows.rasterCountsRow.laid) #[.agg #[.int .i64 0, .int .i64 0, .slice none 0 0]] 8 (World.laidAll_os _ _ _)
      (World.shaped_of_ZipB (by kernel_rfl) (by kernel_rfl)) (by kernel_rfl) (by kernel_rfl) (by kernel_rfl)
      (by rw [MakeChecks.laidMetH_plain _ _ _ (by kernel_rfl)]; exact laidMet_laidAll _ (by kernel_rfl) (by kernel_rfl))) ?_
  intro W base args ds gs before hval0 hW hcnd hsz0 hL _
  have hval : ∀ (j : Nat) t v, Tryd.f9.params[j]? = some t → args[j]? = some v → Value.okWide Tryd.prog W .any base t v := hval0
  have hW' := hW
  obtain ⟨p, q, hA0, hV, rfl, hfz, hnd⟩ := hW
  have hA : DataW.TrodAll enc Tryd.prog W 0 (fun _ => true) true Tryd.f9.params.toList args.toList ds p := hA0
  rw [Tryd.params9] at hA hval
  obtain ⟨v0, vs0, d0, ds0, p0, q0, hargs, rfl, rfl, h0, r0⟩ := trodAll_cons hA
  obtain ⟨rfl, rfl, rfl⟩ := trodAll_nil r0
  obtain rfl : args = #[v0] := by cases args; simp_all
  obtain ⟨rfl, rfl⟩ := trodVars_none hV
  have lt0 : ∀ x ∈ p0, x.block < W.heap.size := by obtain ⟨m, hm⟩ := h0; exact DataW.trod_lt m _ _ _ hm
  obtain ⟨a0, o0, k0⟩ := arg_agg (shs := [.int .i64, .int .i64, .sl [.int .u8]]) 6 (by kernel_rfl) (by kernel_rfl) (hval 0 25 v0 rfl rfl) h0
  clear hA0 hval0 hsz0 hL
  obtain ⟨x0_0, m0_0, rfl, y0_0, h0_0⟩ := Ops_cons o0
  obtain ⟨x0_1, m0_1, rfl, y0_1, h0_1⟩ := Ops_cons h0_0
  obtain ⟨x0_2, m0_2, rfl, y0_2, h0_2⟩ := Ops_cons h0_1
  obtain ⟨rw, rfl, _⟩ := Op_int y0_0
  obtain ⟨rh, rfl, _⟩ := Op_int y0_1
  obtain ⟨rp, rfl, lenr, okr⟩ := Op_sl (fun x : Int => [U x]) (fun x => 0 ≤ x ∧ x ≤ 255) (fun c h => by obtain ⟨x0, m0, rfl, y0, h0⟩ := Ops_cons h; obtain ⟨u0, rfl, w0⟩ := Op_int y0; obtain rfl := Ops_nil h0; exact ⟨u0, rfl, u8_wf w0⟩) y0_2
  obtain rfl := Ops_nil h0_2
  refine (PFun.law (w := W) (vs := #[v0]) (counts9 ⟨rw, rh, rp⟩ okr) (.cons k0 .nil)).mono fun e W' ⟨he, bel⟩ => ?_
  subst he
  exact ⟨_, rfl, _, _, _, [], _, [], hW', trodAll_mk1 (shut_bool Tryd.underlying4 _), (trodAll_cons_mk (Below.trod laidOut (by kernel_rfl) (of_decide_eq_true (by kernel_rfl)) h0 bel lt0) trodAll_mk0), rfl, bel.frame _, fun h => by cases h⟩
theorem over : Rows.rasterCountsRow.holds Tryd.pinned (OpenSpec.ofChange Rows.rasterCountsSpec) :=
  OpenClaim.holds_of_wide 9 Tryd.f9 rfl rfl rfl rfl rfl rfl rfl ⟨rfl, rfl, rfl, rfl, rfl⟩ rfl rfl rfl rfl rfl (by kernel_rfl) Tryd.func9 (by kernel_rfl)
    (of_decide_eq_true (by kernel_rfl)) (by unfold Func.isWrapper; first | (rw [if_pos (by decide +kernel)]; kernel_rfl) | (rw [if_neg (by decide +kernel)]; exact ⟨rfl, rfl⟩))
    (fun os started H enc _ => lifted os started H enc)
end Go.Proofs.YtfmlhmfbhcfnpaaDoor.rasterCountsRow
namespace Go.Proofs.YtfmlhmfbhcfnpaaDoor
open Go
/-- The statement: the tied card. -/
theorem rasterCounts_holds : Rows.RasterCountsCardSaid :=
  Claim7.holds_tied_plain_at .later [] [.data, .pinned] true (true, "574faa45a3533286245555659c522e19a46158fe5192dc0d4b3e199697c6f072") false rasterCountsRow.over (fun _ h => by cases h) (by kernel_rfl) (fun _ h => by cases h) rasterCounts_row_tie rfl ⟨rfl, rfl⟩ (by kernel_rfl) rfl
    (fun f fn hf hfn => by
      obtain rfl : f = 9 := Option.some.inj ((show Tryd.prog.funcNamed "fleuron/fleuronlaw20.RasterCounts" = some 9 by kernel_rfl).symm.trans hf) |>.symm
      obtain rfl : fn = Tryd.f9 := (Option.some.inj (Tryd.func9.symm.trans hfn)).symm
      exact ⟨by kernel_rfl, fun j t ht => by
        rw [Tryd.params9] at ht
        have hm : t ∈ [25] := by simpa using Array.mem_of_getElem? ht
        have hall : ([25].all fun u => !Tryd.prog.wantsStandIn u) = true := by kernel_rfl
        exact (show Tryd.prog.wantsStandIn t = false by simpa using List.all_eq_true.1 hall t hm)⟩)
    (by kernel_rfl)
#print axioms rasterCounts_holds
end Go.Proofs.YtfmlhmfbhcfnpaaDoor

