/- What functions of the given program answer, part 7. Conditions: each theorem speaks for itself. -/
import Derived.Test.YtckbchkkjnahlaaBTy
import Derived.Test.YtckbchkkjnahlaaBF1
import Derived.Test.YtckbchkkjnahlaaBF2
import Derived.Test.YtckbchkkjnahlaaBF3
import Derived.Test.YtckbchkkjnahlaaBF4
import Derived.Test.YtckbchkkjnahlaaBF5
import Derived.Test.YtckbchkkjnahlaaBF6
set_option linter.unusedSimpArgs false
set_option linter.unusedVariables false
namespace Go.Proofs.Ytckbchkkjnahlaa
open Go Go.Eng Go.RowKit
attribute [local go_sem ↓] qE_move qE_assign qE_pick qE_load qE_fieldAddr qE_indexAddr qE_extract qE_binOp qE_neg qE_not qE_convert qE_build qE_len qE_max2 qE_min2 qE_nilCheck qE_slice vc_end vc_skip vc_ret vc_seq vc_cond vc_block vc_exit vc_region vc_draw vc_loop vc_blk vc_lp vc_o_nil vc_o vc_o_guard onK_eq oK_move oK_assign oK_pick oK_load oK_fieldAddr oK_indexAddr oK_index oK_extract oK_binOp oK_unOp oK_convert oK_nilCheck oK_slice oK_build oK_len oK_max oK_min onN_eq oK_box oK_alloc oK_buildSlice oK_makeSlice onH_eq oK_store onA_eq oK_append oK_call oK_copy oK_cap oK_clear bV_add bV_sub bV_mul bV_quo bV_rem bV_or bV_shl bV_shr bV_eql bV_neq bV_lss bV_leq bV_gtr bV_geq vcQ_nil vcQ_cons vcQ_guard Q_move Q_assign Q_pick Q_load Q_fieldAddr Q_indexAddr Q_extract Q_binOp Q_unOp Q_convert Q_nilCheck Q_slice Q_build Q_len Q_alloc Q_makeSlice Q_buildSlice Q_call qE_index tailB_nil tailB_true onS_eq tailB_store onP_eq tailB_append onQ_eq onQB_eq loadE indexE
attribute [local go_sem] force_eq optK_some optE_some optE_none bK_v tK_t fnK_fn fyK_fn nK_ptr pK_ptr pK_rp brK_true brK_false brK_not evA_tmp evA_const evA_func putA_some putA_none pushA_eq slots_zero slots_nil tl_nil tl_cons find_cons find_nil setN_cons setN_nil dropN_nil dropN_cons loE_none loE_some hiE_none hiE_some slE_sl slE_ro bE_i bE_beq bE_bne bE_eql bE_neq intsA_nil intsA_cons gdK_b gdK_u popTo_blk popTo_c popTo_lp nilE_tmp nilE_int nilE_nil srcE_ro srcE_sl dstE_sl dstE_ez fin_eq res_nil res_tmp res_cell tup1 tup0 optA_some frz_v frz_ro frz_g frz_sl nm_v nm_ro nm_sl cells_v cells_g cells_ro cells_ptr cells_sl one_int one_bool one_slice oneA_v oneA_ro oneA_sl ofV_int ofV_bool ofV_string ofV_slice len_ro len_sl len_nil asI_int fill_nil fill_cons chunks_nil chunks_cons take_all DrawK_eq idR_eq addB_some roB_nil roB_cons sg_nil sg_cons ren_v ren_nil ren_ptr ren_sl ren_ro iK_ro iK_sl ixE_s takeA_00 takeA_s nil_eq maskE_eq i_InlQ i_tup2 i_RenF_nil i_RenF_cons wrap_wr brK_dec maskH_eq upd_get slots_succ Cl_v Cl_ro Cl_rp Cl_fn Cl_g Cl_t Bool.false_eq_true decide_true decide_false beq_self_eq_true true_and and_true ne_eq not_true not_false_eq_true List.elem_cons List.elem_nil List.contains_cons List.contains_nil List.getD_cons_zero List.getD_cons_succ Int.cast_ofNat_Int Bool.or_true Bool.true_or Bool.or_false Bool.false_or if_true if_false List.toList_toArray List.map_cons List.map_nil List.cons_append List.nil_append List.append_nil List.flatMap_cons List.flatMap_nil List.getElem?_cons_zero List.getElem?_cons_succ List.length_cons List.length_nil List.drop_succ_cons List.drop_zero List.take_succ_cons List.take_zero List.all_cons List.all_nil List.set_cons_zero List.set_cons_succ Option.bind_some Option.bind_none Option.map_some Option.map_none List.headD_cons List.tail_cons List.getElem?_toArray beq_true beq_false Bool.not_true Bool.not_false Bool.true_and Bool.and_true Bool.false_and Bool.and_false newCh Option.some.injEq exists_eq_left' sg_nil sg_cons List.mem_cons List.not_mem_nil forall_eq_or_imp forall_eq false_implies implies_true or_false false_or false_and and_false or_true true_or exists_false Option.isSome_some Option.isSome_none List.range_zero
attribute [local go_sem] T.ik2 T.us2 T.sz3 T.by3 T.ag3 T.pt3 T.ik3 T.us3 T.ze3 T.sz4 T.ag4 T.bo4 T.ik5 T.us5 T.st9 T.sz22 T.ag22 T.sl22 T.ar22 T.pt22 T.ik22 T.us22 T.sl25 T.ar25 T.pt25 T.ik25 T.us25 T.sz27 T.by27 T.ag27 T.ze27 T.fl27_0 T.fl27_1 T.bu27 T.sz30 T.ag30 T.sz32 T.ag32 T.ze32 T.fl32_0 T.fl32_1 T.fl32_2 T.fl32_3 T.bu32 T.sz34 T.by34 T.ag34 T.ze34 T.fl34_0 T.fl34_1 T.fl34_2 T.bu34 T.sz37 T.ag37 T.ze37 T.fl37_0 T.fl37_1 T.bu37 T.sl41 T.ik41 T.us41 T.sz44 T.by44 T.ag44 T.ze44 T.bu44 T.sz61 T.ag61 T.sl61 T.ar61 T.pt61 T.ik61 T.us61 T.ze61 T.sz66 T.by66 T.ag66 T.ze66 T.fl66_0 T.fl66_1 T.fl66_2 T.fl66_3 T.fl66_4 T.fl66_5 T.fl66_6 T.fl66_7 T.fl66_8 T.bu66 T.sl71 T.ik71 T.us71 T.sz80 T.ag80 T.ze80 T.sl81 T.ik94 T.us94 T.sl96 T.ar96 T.pt96 T.ik96 T.us96 T.sz98 T.ag98 T.sl98 T.ar98 T.pt98 T.ik98 T.us98 T.sz100 T.by100 T.ag100 T.ze100 T.fl100_0 T.fl100_1 T.bu100 T.sz101 T.by101 T.ag101 T.sl101 T.ar101 T.ze101 T.sz103 T.by103 T.ag103 T.ze103 T.fl103_0 T.fl103_1 T.fl103_2 T.fl103_3 T.bu103 T.sl107 T.sl112 T.ik118 T.sl122 T.sz127 T.ag127 T.ze127 T.fl127_0 T.fl127_1 T.bu127 T.sz131 T.by131 T.ag131 T.ik131 T.us131 T.ze131 -- NOREP -- EXTRA=EngZS
section
set_option maxRecDepth 20000
attribute [local go_sem] eqk27' clKnsL clPtsT clPtsR slE_ro3 rlO_mk
theorem ch_le (n : Nat) (c : Bool) : ∀ (rs : List Ar) (k : Nat), (chPts n c k rs).length ≤ 3 * rs.length
  | [], _ => Nat.le_refl _
  | r :: rs, k => by
    have ih := ch_le n c rs (k + 1)
    simp only [chPts, chAdd, List.length_append, List.length_cons, List.length_nil]
    split <;> simp only [List.length_cons, List.length_nil] <;> omega
theorem onePt (l : List (Int × Int)) : ∀ c ∈ l.map PtC, ∀ x ∈ c, oneA x = true := by
  intro c hc x hx
  obtain ⟨r, _, rfl⟩ := List.mem_map.1 hc
  simp at hx
  rcases hx with rfl | rfl <;> rfl
set_option maxHeartbeats 4000000 in
theorem hobbyParts (l : List Kn) (a : Int) (ha : 0 ≤ a ∧ a ≤ 255) : PFun Try.prog 9 [Kns l, .v (.int .u8 a)] (Bo true) := by
  by_cases hl1 : ((l.length : Nat) : Int) < 3
  · refine PFun.intro 400 mixed Try.func9 (by kernel_rfl) rfl (by first | exact .v _ | (simp [Cl_v, Cl_t, Cl_g, Cl_fn, Cl_rp, Cl_ro]; done) | (simp [Cl_v, Cl_t, Cl_g, Cl_fn, Cl_rp, Cl_ro, or_imp, forall_and]; done) | (split <;> simp [Cl_v, Cl_t, Cl_g, Cl_fn, Cl_rp, Cl_ro])) (Nat.le_of_ble_eq_true rfl) ?_; rw [Try.ntmps9, Try.results9]
    simp -dsimp -implicitDefEqProofs only [go_sem, seval, List.length_map, hl1]
    refine AtFn.pure0 awake10 ?_
    simp -dsimp -implicitDefEqProofs only [go_sem, seval]
  by_cases hl2 : (9 : Int) < ((l.length : Nat) : Int)
  · refine PFun.intro 400 mixed Try.func9 (by kernel_rfl) rfl (by first | exact .v _ | (simp [Cl_v, Cl_t, Cl_g, Cl_fn, Cl_rp, Cl_ro]; done) | (simp [Cl_v, Cl_t, Cl_g, Cl_fn, Cl_rp, Cl_ro, or_imp, forall_and]; done) | (split <;> simp [Cl_v, Cl_t, Cl_g, Cl_fn, Cl_rp, Cl_ro])) (Nat.le_of_ble_eq_true rfl) ?_; rw [Try.ntmps9, Try.results9]
    simp -dsimp -implicitDefEqProofs only [go_sem, seval, List.length_map, hl1, hl2]
    refine AtFn.pure0 awake10 ?_
    simp -dsimp -implicitDefEqProofs only [go_sem, seval]
  have hvd := valid16 l false (by omega)
  cases hv : validK l false with
  | false =>
    rw [hv] at hvd
    refine PFun.intro 400 mixed Try.func9 (by kernel_rfl) rfl (by first | exact .v _ | (simp [Cl_v, Cl_t, Cl_g, Cl_fn, Cl_rp, Cl_ro]; done) | (simp [Cl_v, Cl_t, Cl_g, Cl_fn, Cl_rp, Cl_ro, or_imp, forall_and]; done) | (split <;> simp [Cl_v, Cl_t, Cl_g, Cl_fn, Cl_rp, Cl_ro])) (Nat.le_of_ble_eq_true rfl) ?_; rw [Try.ntmps9, Try.results9]
    simp -dsimp -implicitDefEqProofs only [go_sem, seval, List.length_map, hl1, hl2]
    refine AtFn.pure0 hvd ?_
    simp -dsimp -implicitDefEqProofs only [go_sem, seval]
    refine AtFn.pure0 awake10 ?_
    simp -dsimp -implicitDefEqProofs only [go_sem, seval]
  | true =>
    rw [hv] at hvd
    obtain ⟨A, rfl⟩ : ∃ A : Nat, a = (A : Int) := ⟨a.toNat, by omega⟩
    obtain ⟨n, hn⟩ : ∃ n, n = l.length := ⟨_, rfl⟩
    have n3 : 3 ≤ n := by omega
    have n9 : n ≤ 9 := by omega
    have e0 : wr ((A : Nat) : Int) = ((A : Nat) : Int) := wr_in (by omega) (by omega)
    have e1 : wr (((n : Nat) : Int) - 2) = ((n - 2 : Nat) : Int) := by rw [wr_in] <;> omega
    have e2 : ((A : Nat) : Int).tmod ((n - 2 : Nat) : Int) = ((A % (n - 2) : Nat) : Int) := tmodN _ _
    have hm : A % (n - 2) < n - 2 := Nat.mod_lt _ (by omega)
    have hn0 : ¬ ((n - 2 : Nat) : Int) = 0 := by omega
    obtain ⟨j, hj⟩ : ∃ j, j = A % (n - 2) := ⟨_, rfl⟩
    rw [← hj] at e2 hm
    have e3 : wr ((j : Nat) : Int) = ((j : Nat) : Int) := wr_in (by omega) (by omega)
    obtain ⟨k, hk⟩ : ∃ k, k = 1 + j := ⟨_, rfl⟩
    have e4 : wr (1 + ((j : Nat) : Int)) = ((k : Nat) : Int) := by rw [wr_in] <;> omega
    have e5 : wr (((k : Nat) : Int) + 1) = ((k + 1 : Nat) : Int) := by rw [wr_in] <;> omega
    have gk := getKn (l := l) (i := k) (by omega)
    have ck : ((k : Nat) : Int) < ((n : Nat) : Int) := by omega
    have hl1' : ¬ ((n : Nat) : Int) < 3 := by omega
    have hl2' : ¬ (9 : Int) < ((n : Nat) : Int) := by omega
    by_cases hc : (l.getD k zK).c.op = 0
    · refine PFun.intro 400 mixed Try.func9 (by kernel_rfl) rfl (by first | exact .v _ | (simp [Cl_v, Cl_t, Cl_g, Cl_fn, Cl_rp, Cl_ro]; done) | (simp [Cl_v, Cl_t, Cl_g, Cl_fn, Cl_rp, Cl_ro, or_imp, forall_and]; done) | (split <;> simp [Cl_v, Cl_t, Cl_g, Cl_fn, Cl_rp, Cl_ro])) (Nat.le_of_ble_eq_true rfl) ?_; rw [Try.ntmps9, Try.results9]
      simp -dsimp -implicitDefEqProofs only [go_sem, seval, List.length_map, ← hn, hl1', hl2']
      refine AtFn.pure0 hvd ?_
      simp -dsimp -implicitDefEqProofs only [go_sem, seval, List.length_map, ← hn, e0, e1, e2, e3, e4, hn0, gk, ck, hc, Int.toNat_natCast, Int.natCast_nonneg]
      refine AtFn.pure0 awake10 ?_
      simp -dsimp -implicitDefEqProofs only [go_sem, seval]
    by_cases hl : (l.getD k zK).l.op = 0
    · refine PFun.intro 400 mixed Try.func9 (by kernel_rfl) rfl (by first | exact .v _ | (simp [Cl_v, Cl_t, Cl_g, Cl_fn, Cl_rp, Cl_ro]; done) | (simp [Cl_v, Cl_t, Cl_g, Cl_fn, Cl_rp, Cl_ro, or_imp, forall_and]; done) | (split <;> simp [Cl_v, Cl_t, Cl_g, Cl_fn, Cl_rp, Cl_ro])) (Nat.le_of_ble_eq_true rfl) ?_; rw [Try.ntmps9, Try.results9]
      simp -dsimp -implicitDefEqProofs only [go_sem, seval, List.length_map, ← hn, hl1', hl2']
      refine AtFn.pure0 hvd ?_
      simp -dsimp -implicitDefEqProofs only [go_sem, seval, List.length_map, ← hn, e0, e1, e2, e3, e4, hn0, gk, ck, hc, hl, Int.toNat_natCast, Int.natCast_nonneg]
      refine AtFn.pure0 awake10 ?_
      simp -dsimp -implicitDefEqProofs only [go_sem, seval]
    have hcut : Cut l k := ⟨by omega, by omega, hc, hl⟩
    have T := two_of hv hcut
    have hL := chooseG hv
    have hA := chooseG (valid_A hv hcut)
    have hB := chooseG (valid_B hv hcut)
    obtain ⟨LA, hLA⟩ : ∃ LA, LA = l.take (k + 1) := ⟨_, rfl⟩
    obtain ⟨LB, hLB⟩ : ∃ LB, LB = l.drop k := ⟨_, rfl⟩
    obtain ⟨Te, Tp⟩ := T
    rw [← hLA, ← hLB] at Te Tp
    rw [← hLA] at hA
    rw [← hLB] at hB
    unfold chR PaR at hL hA hB
    rw [Tp] at hL
    refine PFun.intro 400 mixed Try.func9 (by kernel_rfl) rfl (by first | exact .v _ | (simp [Cl_v, Cl_t, Cl_g, Cl_fn, Cl_rp, Cl_ro]; done) | (simp [Cl_v, Cl_t, Cl_g, Cl_fn, Cl_rp, Cl_ro, or_imp, forall_and]; done) | (split <;> simp [Cl_v, Cl_t, Cl_g, Cl_fn, Cl_rp, Cl_ro])) (Nat.le_of_ble_eq_true rfl) ?_; rw [Try.ntmps9, Try.results9]
    simp -dsimp -implicitDefEqProofs only [go_sem, seval, List.length_map, ← hn, hl1', hl2']
    refine AtFn.pure0 hvd ?_
    simp -dsimp -implicitDefEqProofs only [go_sem, seval, List.length_map, ← hn, e0, e1, e2, e3, e4, e5, hn0, gk, ck, hc, hl, Int.toNat_natCast, Int.natCast_nonneg]
    have hp : LA.getD 0 zK = l.getD 0 zK := by rw [hLA]; exact takeK (by omega)
    rw [hp] at hA
    have tA2 : List.take (k + 1) (l.map KnC) = LA.map KnC := by rw [← List.map_take, hLA]
    have tB2 : List.drop k (l.map KnC) = LB.map KnC := by rw [← List.map_drop, hLB]
    have tB4 : List.drop k (List.take n (l.map KnC)) = LB.map KnC := by rw [List.take_of_length_le (by rw [List.length_map]; omega)]; exact tB2
    have hkn : k + 1 ≤ n := by omega
    have hkn2 : k ≤ n := by omega
    have c1 : ((k + 1 : Nat) : Int) ≤ ((n : Nat) : Int) := by omega
    have c2 : ((k : Nat) : Int) ≤ ((n : Nat) : Int) := by omega
    obtain ⟨CA, hCA⟩ : ∃ CA, CA = chPts (segs LA false) false 0 (solveW (arcs0 LA false) false) := ⟨_, rfl⟩
    obtain ⟨CB, hCB⟩ : ∃ CB, CB = chPts (segs LB false) false 0 (solveW (arcs0 LB false) false) := ⟨_, rfl⟩
    rw [← hCA] at hA
    rw [← hCB] at hB
    rw [← hCA, ← hCB] at hL
    obtain ⟨p0, hp0⟩ : ∃ p0, p0 = ((l.getD 0 zK).x, (l.getD 0 zK).y) := ⟨_, rfl⟩
    obtain ⟨pB, hpB⟩ : ∃ pB, pB = ((LB.getD 0 zK).x, (LB.getD 0 zK).y) := ⟨_, rfl⟩
    rw [← hp0] at hA hL
    rw [← hpB] at hB
    obtain ⟨xL, hxL⟩ : ∃ x, x = chErr (solveW (arcs0 l false) false) := ⟨_, rfl⟩
    obtain ⟨xA, hxA⟩ : ∃ x, x = chErr (solveW (arcs0 LA false) false) := ⟨_, rfl⟩
    obtain ⟨xB, hxB⟩ : ∃ x, x = chErr (solveW (arcs0 LB false) false) := ⟨_, rfl⟩
    rw [← hxL, ← hxA, ← hxB] at Te
    rw [← hxL] at hL
    rw [← hxA] at hA
    rw [← hxB] at hB
    by_cases eA : xA = 0
    · rw [if_pos eA] at hA Te
      by_cases eB : xB = 0
      · rw [if_pos eB] at hB
        rw [if_pos (by omega)] at hL
        refine AtFn.pure0 hL ?_
        simp -dsimp -implicitDefEqProofs only [go_sem, seval, List.length_map, ← hn, e5, c1, c2, tA2, tB4, hkn, hkn2, Nat.le_refl, Int.toNat_natCast, Int.natCast_nonneg]
        refine AtFn.pure0 hA ?_
        simp -dsimp -implicitDefEqProofs only [go_sem, seval, List.length_map, ← hn, e5, c1, c2, tA2, tB4, hkn, hkn2, Nat.le_refl, Int.toNat_natCast, Int.natCast_nonneg]
        refine AtFn.pure0 hB ?_
        simp -dsimp -implicitDefEqProofs only [go_sem, seval]
        refine AtCode.drawCP 10 [([], []), ([0], []), ([], []), ([], []), ([3], []), ([2, 3, 4], []), ([], []), ([6], []), ([6, 7], []), ([2, 3, 4, 5, 6, 7, 8], []), ([0, 1, 2, 3, 4, 5, 6, 7, 8, 9], []), ([0, 1, 2, 3, 4, 5, 6, 7, 8, 9, 10], []), ([0, 1, 2, 3, 4, 5, 6, 7, 8, 9, 10, 11], []), ([0, 1, 2, 3, 4, 5, 6, 7, 8, 9, 10, 11, 12], []), ([0, 1, 2, 3, 4, 5, 6, 7, 8, 9, 10, 11, 12, 13], [])] [2, 3, 4, 6, 7, 8, 0, 1, 5, 9] [6, 7, 0, 1, 2, 8, 3, 4, 5, 9] 8 [([], []), ([], []), ([1], []), ([], [3]), ([3], [3]), ([3, 4], [3]), ([], [3, 11]), ([6], [3, 11]), ([0, 1, 2], []), ([0, 1, 2, 3, 4, 5, 8], [])] [false, false] (by kernel_rfl) (by kernel_rfl) ?_
        simp only [List.toList_toArray, pmO, List.filterMap_cons, List.filterMap_nil, List.getElem?_cons_succ, List.getElem?_cons_zero, Option.map_some, rlO_mk, force_eq]
        have lenA : CA.length ≤ 3 * 200 := by
          have h1 := ch_le (segs LA false) false (solveW (arcs0 LA false) false) 0
          rw [← hCA, (solve_S (arcs0 LA false) false).1, arcs0_len] at h1
          have h2 := segs_le (l := LA) (c := false)
          have h3 : LA.length ≤ n := by rw [hLA, hn]; simp; omega
          omega
        have lenB : CB.length ≤ 3 * 200 := by
          have h1 := ch_le (segs LB false) false (solveW (arcs0 LB false) false) 0
          rw [← hCB, (solve_S (arcs0 LB false) false).1, arcs0_len] at h1
          have h2 := segs_le (l := LB) (c := false)
          have h3 : LB.length ≤ n := by rw [hLB, hn]; simp
          omega
        have tCA : takeA 0 CA.length (CA.map PtC) = CA.map PtC := by rw [takeA_eq, List.drop_zero, List.take_of_length_le (by simp)]
        have tCB : List.take CB.length (CB.map PtC) = CB.map PtC := List.take_of_length_le (by simp)
        have hsm := same24 (p0 :: (CA ++ CB)) (p0 :: (CA ++ CB)) (by simp; omega)
        simp -dsimp -implicitDefEqProofs only [go_sem, seval, List.length_map, tCA, tCB, Nat.le_refl, Nat.zero_add]
        refine ⟨by omega, onePt _, by omega, onePt _, by kernel_rfl, ?_⟩
        refine AtFn.pure hsm ?_
        simp -dsimp -implicitDefEqProofs only [go_sem, seval, List.length_map]
        refine ⟨by rw [if_pos (by omega)]; show _ = [AV.ro 2 ((p0 :: (CA ++ CB)).map PtC), AV.ro 2 ((p0 :: (CA ++ CB)).map PtC)]; simp only [List.map_cons, List.map_append], ?_⟩
        refine AtFn.pure0 awake10 ?_
        simp -dsimp -implicitDefEqProofs only [go_sem, seval]
      · rw [if_neg eB] at hB
        rw [if_neg (by omega)] at hL
        refine AtFn.pure0 hL ?_
        simp -dsimp -implicitDefEqProofs only [go_sem, seval, List.length_map, ← hn, e5, c1, c2, tA2, tB4, hkn, hkn2, Nat.le_refl, Int.toNat_natCast, Int.natCast_nonneg]
        refine AtFn.pure0 hA ?_
        simp -dsimp -implicitDefEqProofs only [go_sem, seval, List.length_map, ← hn, e5, c1, c2, tA2, tB4, hkn, hkn2, Nat.le_refl, Int.toNat_natCast, Int.natCast_nonneg]
        refine AtFn.pure0 hB ?_
        simp -dsimp -implicitDefEqProofs only [go_sem, seval, Te, eB]
        refine AtFn.pure0 awake10 ?_
        simp -dsimp -implicitDefEqProofs only [go_sem, seval]
    · rw [if_neg eA] at hA Te
      rw [if_neg (by omega)] at hL
      refine AtFn.pure0 hL ?_
      simp -dsimp -implicitDefEqProofs only [go_sem, seval, List.length_map, ← hn, e5, c1, c2, tA2, tB4, hkn, hkn2, Nat.le_refl, Int.toNat_natCast, Int.natCast_nonneg]
      refine AtFn.pure0 hA ?_
      simp -dsimp -implicitDefEqProofs only [go_sem, seval, List.length_map, ← hn, e5, c1, c2, tA2, tB4, hkn, hkn2, Nat.le_refl, Int.toNat_natCast, Int.natCast_nonneg]
      by_cases eB : xB = 0
      · rw [if_pos eB] at hB
        refine AtFn.pure0 hB ?_
        simp -dsimp -implicitDefEqProofs only [go_sem, seval, Te, eA]
        refine AtFn.pure0 awake10 ?_
        simp -dsimp -implicitDefEqProofs only [go_sem, seval]
      · rw [if_neg eB] at hB
        refine AtFn.pure0 hB ?_
        simp -dsimp -implicitDefEqProofs only [go_sem, seval, Te, eA, eB]
        refine AtFn.pure0 awake10 ?_
        simp -dsimp -implicitDefEqProofs only [go_sem, seval]
theorem u8_wf {n : Int} (h : (Lit.int .u8 n).wf = true) : 0 ≤ n ∧ n ≤ 255 := by
  simp [Lit.wf, IntKind.min, IntKind.max] at h
  first | exact h | (simp [IntKind.signed, IntKind.bits] at h; omega)
end

end Go.Proofs.Ytckbchkkjnahlaa
