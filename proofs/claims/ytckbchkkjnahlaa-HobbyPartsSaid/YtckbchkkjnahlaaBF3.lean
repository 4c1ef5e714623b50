/- What functions of the given program answer, part 3. Conditions: each theorem speaks for itself. -/
import Derived.Test.YtckbchkkjnahlaaBTy
import Derived.Test.YtckbchkkjnahlaaBF1
import Derived.Test.YtckbchkkjnahlaaBF2
set_option linter.unusedSimpArgs false
set_option linter.unusedVariables false
namespace Go.Proofs.Ytckbchkkjnahlaa
open Go Go.Eng Go.RowKit
attribute [local go_sem ↓] qE_move qE_assign qE_pick qE_load qE_fieldAddr qE_indexAddr qE_extract qE_binOp qE_neg qE_not qE_convert qE_build qE_len qE_max2 qE_min2 qE_nilCheck qE_slice vc_end vc_skip vc_ret vc_seq vc_cond vc_block vc_exit vc_region vc_draw vc_loop vc_blk vc_lp vc_o_nil vc_o vc_o_guard onK_eq oK_move oK_assign oK_pick oK_load oK_fieldAddr oK_indexAddr oK_index oK_extract oK_binOp oK_unOp oK_convert oK_nilCheck oK_slice oK_build oK_len oK_max oK_min onN_eq oK_box oK_alloc oK_buildSlice oK_makeSlice onH_eq oK_store onA_eq oK_append oK_call oK_copy oK_cap oK_clear bV_add bV_sub bV_mul bV_quo bV_rem bV_or bV_shl bV_shr bV_eql bV_neq bV_lss bV_leq bV_gtr bV_geq vcQ_nil vcQ_cons vcQ_guard Q_move Q_assign Q_pick Q_load Q_fieldAddr Q_indexAddr Q_extract Q_binOp Q_unOp Q_convert Q_nilCheck Q_slice Q_build Q_len Q_alloc Q_makeSlice Q_buildSlice Q_call qE_index tailB_nil tailB_true onS_eq tailB_store onP_eq tailB_append onQ_eq onQB_eq loadE indexE
attribute [local go_sem] force_eq optK_some optE_some optE_none bK_v tK_t fnK_fn fyK_fn nK_ptr pK_ptr pK_rp brK_true brK_false brK_not evA_tmp evA_const evA_func putA_some putA_none pushA_eq slots_zero slots_nil tl_nil tl_cons find_cons find_nil setN_cons setN_nil dropN_nil dropN_cons loE_none loE_some hiE_none hiE_some slE_sl slE_ro bE_i bE_beq bE_bne bE_eql bE_neq intsA_nil intsA_cons gdK_b gdK_u popTo_blk popTo_c popTo_lp nilE_tmp nilE_int nilE_nil srcE_ro srcE_sl dstE_sl dstE_ez fin_eq res_nil res_tmp res_cell tup1 tup0 optA_some frz_v frz_ro frz_g frz_sl nm_v nm_ro nm_sl cells_v cells_g cells_ro cells_ptr cells_sl one_int one_bool one_slice oneA_v oneA_ro oneA_sl ofV_int ofV_bool ofV_string ofV_slice len_ro len_sl len_nil asI_int fill_nil fill_cons chunks_nil chunks_cons take_all DrawK_eq idR_eq addB_some roB_nil roB_cons sg_nil sg_cons ren_v ren_nil ren_ptr ren_sl ren_ro iK_ro iK_sl ixE_s takeA_00 takeA_s nil_eq maskE_eq i_InlQ i_tup2 i_RenF_nil i_RenF_cons wrap_wr brK_dec maskH_eq upd_get slots_succ Cl_v Cl_ro Cl_rp Cl_fn Cl_g Cl_t Bool.false_eq_true decide_true decide_false beq_self_eq_true true_and and_true ne_eq not_true not_false_eq_true List.elem_cons List.elem_nil List.contains_cons List.contains_nil List.getD_cons_zero List.getD_cons_succ Int.cast_ofNat_Int Bool.or_true Bool.true_or Bool.or_false Bool.false_or if_true if_false List.toList_toArray List.map_cons List.map_nil List.cons_append List.nil_append List.append_nil List.flatMap_cons List.flatMap_nil List.getElem?_cons_zero List.getElem?_cons_succ List.length_cons List.length_nil List.drop_succ_cons List.drop_zero List.take_succ_cons List.take_zero List.all_cons List.all_nil List.set_cons_zero List.set_cons_succ Option.bind_some Option.bind_none Option.map_some Option.map_none List.headD_cons List.tail_cons List.getElem?_toArray beq_true beq_false Bool.not_true Bool.not_false Bool.true_and Bool.and_true Bool.false_and Bool.and_false newCh Option.some.injEq exists_eq_left' sg_nil sg_cons List.mem_cons List.not_mem_nil forall_eq_or_imp forall_eq false_implies implies_true or_false false_or false_and and_false or_true true_or exists_false Option.isSome_some Option.isSome_none List.range_zero
attribute [local go_sem] T.ik2 T.us2 T.sz3 T.by3 T.ag3 T.pt3 T.ik3 T.us3 T.ze3 T.sz4 T.ag4 T.bo4 T.ik5 T.us5 T.st9 T.sz22 T.ag22 T.sl22 T.ar22 T.pt22 T.ik22 T.us22 T.sl25 T.ar25 T.pt25 T.ik25 T.us25 T.sz27 T.by27 T.ag27 T.ze27 T.fl27_0 T.fl27_1 T.bu27 T.sz30 T.ag30 T.sz32 T.ag32 T.ze32 T.fl32_0 T.fl32_1 T.fl32_2 T.fl32_3 T.bu32 T.sz34 T.by34 T.ag34 T.ze34 T.fl34_0 T.fl34_1 T.fl34_2 T.bu34 T.sz37 T.ag37 T.ze37 T.fl37_0 T.fl37_1 T.bu37 T.sl41 T.ik41 T.us41 T.sz44 T.by44 T.ag44 T.ze44 T.bu44 T.sz61 T.ag61 T.sl61 T.ar61 T.pt61 T.ik61 T.us61 T.ze61 T.sz66 T.by66 T.ag66 T.ze66 T.fl66_0 T.fl66_1 T.fl66_2 T.fl66_3 T.fl66_4 T.fl66_5 T.fl66_6 T.fl66_7 T.fl66_8 T.bu66 T.sl71 T.ik71 T.us71 T.sz80 T.ag80 T.ze80 T.sl81 T.ik94 T.us94 T.sl96 T.ar96 T.pt96 T.ik96 T.us96 T.sz98 T.ag98 T.sl98 T.ar98 T.pt98 T.ik98 T.us98 T.sz100 T.by100 T.ag100 T.ze100 T.fl100_0 T.fl100_1 T.bu100 T.sz101 T.by101 T.ag101 T.sl101 T.ar101 T.ze101 T.sz103 T.by103 T.ag103 T.ze103 T.fl103_0 T.fl103_1 T.fl103_2 T.fl103_3 T.bu103 T.sl107 T.sl112 T.ik118 T.sl122 T.sz127 T.ag127 T.ze127 T.fl127_0 T.fl127_1 T.bu127 T.sz131 T.by131 T.ag131 T.ik131 T.us131 T.ze131 -- NOREP -- EXTRA=EngZP
section
set_option maxRecDepth 20000
attribute [local go_sem] clU32 clNat
def fillP (f : Nat → Int) (n i : Nat) : List Int := (List.range n).map fun j => if j < i then f j else 0
theorem fill_0 (f : Nat → Int) (n : Nat) : fillP f n 0 = List.replicate n 0 := by
  unfold fillP
  refine List.ext_getElem? fun j => ?_
  rw [List.getElem?_map, List.getElem?_replicate]
  split
  · rename_i h; rw [List.getElem?_range h]; rfl
  · rename_i h; rw [List.getElem?_eq_none (by simp; omega)]; rfl
theorem fill_n (f : Nat → Int) (n : Nat) : fillP f n n = (List.range n).map f := by
  unfold fillP
  refine List.map_congr_left fun j hj => ?_
  rw [if_pos (List.mem_range.1 hj)]
theorem fill_len (f : Nat → Int) (n i : Nat) : (fillP f n i).length = n := by simp [fillP]
theorem fill_set (f : Nat → Int) (n i : Nat) : ((fillP f n i).map U32C).set i (U32C (f i)) = (fillP f n (i + 1)).map U32C := by
  rw [← List.map_set]
  congr 1
  unfold fillP
  refine List.ext_getElem? fun j => ?_
  rw [List.getElem?_set]
  by_cases hj : j < n
  · simp only [List.length_map, List.length_range, List.getElem?_map, List.getElem?_range hj, Option.map_some]
    by_cases hij : i = j
    · subst hij
      rw [if_pos rfl, if_pos hj, if_pos (by omega)]
    · rw [if_neg hij]
      by_cases h2 : j < i
      · rw [if_pos h2, if_pos (by omega)]
      · rw [if_neg h2, if_neg (by omega)]
  · simp only [List.length_map, List.length_range]
    rw [List.getElem?_eq_none (by simp; omega), List.getElem?_eq_none (by simp; omega)]
    split
    · rw [if_neg (by omega)]
    · rfl
theorem takeU (D : List Int) (n : Nat) (h : D.length ≤ n) : takeA 0 n (D.map U32C) = D.map U32C := by rw [takeA_eq, List.drop_zero, List.take_of_length_le (by simpa using h)]
theorem getD_out {D : List Int} {i : Nat} (h : D.length ≤ i) : D.getD i 0 = 0 := by simp [List.getD, List.getElem?_eq_none h]
def adF (a b : List Int) (j : Nat) : Int := (carW a b j + a.getD j 0 + b.getD j 0) % 4294967296
set_option maxHeartbeats 2000000 in
theorem add83 (D E : List Int) (hD : okD D) (hE : okD E) (h1 : D.length < 1073741824) (h2 : E.length < 1073741824) : PFun Try.prog 83 [NatA D, NatA E] (NatA (dig (valN D + valN E))) := by
  by_cases hsw : ((D.length : Nat) : Int) < ((E.length : Nat) : Int)
  · obtain ⟨A, eA⟩ : ∃ A, A = E := ⟨_, rfl⟩
    obtain ⟨B, eB⟩ : ∃ B, B = D := ⟨_, rfl⟩
    have hA : okD A := eA ▸ hE
    have hB : okD B := eB ▸ hD
    have hBA : B.length ≤ A.length := by rw [eA, eB]; omega
    have hAl : A.length < 1073741824 := by rw [eA]; exact h2
    rw [Int.add_comm]
    refine PFun.intro 400 mixed Try.func83 (by kernel_rfl) rfl ((clNat _).2 trivial) (Nat.le_of_ble_eq_true rfl) ?_; rw [Try.ntmps83, Try.results83]
    simp -dsimp -implicitDefEqProofs only [go_sem, seval, List.length_map, hsw]
    rw [← eA, ← eB]
    have hn0 : ((A.length + 1 : Nat) : Int) ≤ 274877906944 := by omega
    have w0 : wr (((A.length : Nat) : Int) + 1) = ((A.length + 1 : Nat) : Int) := by rw [wr_in] <;> omega
    simp -dsimp -implicitDefEqProofs only [go_sem, seval, List.length_map, w0, Int.natCast_nonneg, Int.le_refl, hn0, Int.toNat_natCast]
    refine ⟨{i : Nat // i ≤ A.length}, fun i => ⟨58, tl [(0, NatA A), (1, NatA B), (5, .sl 0 0 (A.length + 1)), (6, .v (.int .u64 (carW A B i.1))), (20, I (A.length : Nat)), (21, I i.1)], [(0, ⟨1, (fillP (adF A B) (A.length + 1) i.1).map U32C⟩)], 1, .nil⟩, fun i => A.length - i.1,
      ⟨⟨0, by omega⟩, Le.tl (Ls := []) (y := none) [] (by simp -dsimp -implicitDefEqProofs only [go_sem, seval, carW]) ?_ (by simp) (by simp [sg]) trivial⟩, fun i => ?_⟩
    · simp -dsimp -implicitDefEqProofs only [go_sem, seval, fill_0]
      exact renL_cl2 (by rw [List.map_replicate]) ((clU32 _).2 trivial)
    obtain ⟨i, hi⟩ := i
    simp -dsimp -implicitDefEqProofs only [go_sem, seval]
    refine ⟨fun h => ?_, fun h => ?_⟩
    · have hlt : i < A.length := by omega
      have e3 : wr ((i : Int) + 1) = ((i + 1 : Nat) : Int) := by rw [wr_in] <;> omega
      have cb := car_b hA hB i
      have da := okD_get hA i
      have db := okD_get hB i
      have gA := getU (D := A) (i := i) hlt
      have gF := getU (D := fillP (adF A B) (A.length + 1) i) (i := i) (by rw [fill_len]; omega)
      have c2 : (i : Int) < ((A.length + 1 : Nat) : Int) := by omega
      have x0 : IntKind.u64.wrap (A.getD i 0) = A.getD i 0 := wu (by omega) (by omega)
      have x1 : IntKind.u64.wrap (carW A B i + A.getD i 0) = carW A B i + A.getD i 0 := wu (by omega) (by omega)
      have x2 : IntKind.u64.wrap (B.getD i 0) = B.getD i 0 := wu (by omega) (by omega)
      have x3 : IntKind.u64.wrap (carW A B i + A.getD i 0 + B.getD i 0) = carW A B i + A.getD i 0 + B.getD i 0 := wu (by omega) (by omega)
      have hset := fill_set (adF A B) (A.length + 1) i
      by_cases hb : (i : Int) < ((B.length : Nat) : Int)
      · have gB := getU (D := B) (i := i) (by omega)
        have s1 : (carW A B i + A.getD i 0 + B.getD i 0).fdiv (2 ^ min 32 64) = carW A B (i + 1) := by rw [show ((2 : Int) ^ min 32 64) = 4294967296 by decide, Int.fdiv_eq_ediv_of_nonneg _ (by decide)]; rfl
        have x5 : (carW A B i + A.getD i 0 + B.getD i 0) % 4294967296 = adF A B i := rfl
        simp -dsimp -implicitDefEqProofs only [go_sem, seval, List.length_map, Int.natCast_nonneg, Int.toNat_natCast, gA, gB, hb, c2, x0, x1, x2, x3, s1, wu32m, x5, Nat.zero_add, gF, hset]
        refine ⟨⟨i + 1, by omega⟩, by show A.length - (i + 1) < A.length - i; omega, Le.tl (Ls := []) (y := none) [] (by simp -dsimp -implicitDefEqProofs only [go_sem, seval, e3]) ?_ (by simp) (by simp [sg]) trivial⟩
        simp -dsimp -implicitDefEqProofs only [go_sem, seval]
        exact renL_cl rfl ((clU32 _).2 trivial)
      · have hbz : B.getD i 0 = 0 := getD_out (by omega)
        have s1 : (carW A B i + A.getD i 0).fdiv (2 ^ min 32 64) = carW A B (i + 1) := by rw [show ((2 : Int) ^ min 32 64) = 4294967296 by decide, Int.fdiv_eq_ediv_of_nonneg _ (by decide)]; simp only [carW]; rw [hbz, Int.add_zero]
        have x5 : (carW A B i + A.getD i 0) % 4294967296 = adF A B i := by unfold adF; rw [hbz, Int.add_zero]
        simp -dsimp -implicitDefEqProofs only [go_sem, seval, List.length_map, Int.natCast_nonneg, Int.toNat_natCast, gA, hb, c2, x0, x1, s1, wu32m, x5, Nat.zero_add, gF, hset]
        refine ⟨⟨i + 1, by omega⟩, by show A.length - (i + 1) < A.length - i; omega, Le.tl (Ls := []) (y := none) [] (by simp -dsimp -implicitDefEqProofs only [go_sem, seval, e3]) ?_ (by simp) (by simp [sg]) trivial⟩
        simp -dsimp -implicitDefEqProofs only [go_sem, seval]
        exact renL_cl rfl ((clU32 _).2 trivial)
    · have hin : i = A.length := by omega
      have cb := car_b hA hB i
      subst hin
      have c2 : ((A.length : Nat) : Int) < ((A.length + 1 : Nat) : Int) := by omega
      have gF := getU (D := fillP (adF A B) (A.length + 1) A.length) (i := A.length) (by rw [fill_len]; omega)
      have x6 : carW A B A.length % 4294967296 = adF A B A.length := by
        unfold adF
        rw [getD_out (D := A) (Nat.le_refl _), getD_out (D := B) hBA, Int.add_zero, Int.add_zero]
      have hset := fill_set (adF A B) (A.length + 1) A.length
      have hF : fillP (adF A B) (A.length + 1) (A.length + 1) = addI A B (A.length + 1) := by rw [fill_n]; rfl
      have hv : valN (addI A B (A.length + 1)) = valN A + valN B := by
        have h1 := addI_val A B A.length
        rw [List.take_of_length_le (Nat.le_refl _), List.take_of_length_le hBA] at h1
        rw [addI_suc, val_snoc, addI_len, getD_out (D := A) (Nat.le_refl _), getD_out (D := B) hBA, Int.add_zero, Int.add_zero, Int.emod_eq_of_lt (by omega) (by omega)]
        exact h1
      have ht := nat90 (addI A B (A.length + 1)) (by rw [addI_len]; omega) (addI_ok hA hB _)
      rw [hv] at ht
      rw [hF] at hset
      simp -dsimp -implicitDefEqProofs only [go_sem, seval, List.length_map, Int.natCast_nonneg, Int.toNat_natCast, c2, wu32m, x6, Nat.zero_add, gF, hset]
      refine AtFn.pure ht ?_
      simp -dsimp -implicitDefEqProofs only [go_sem, seval, List.length_map, addI_len, takeU, Nat.le_refl, Nat.zero_add]
  · obtain ⟨A, eA⟩ : ∃ A, A = D := ⟨_, rfl⟩
    obtain ⟨B, eB⟩ : ∃ B, B = E := ⟨_, rfl⟩
    have hA : okD A := eA ▸ hD
    have hB : okD B := eB ▸ hE
    have hBA : B.length ≤ A.length := by rw [eA, eB]; omega
    have hAl : A.length < 1073741824 := by rw [eA]; exact h1
    refine PFun.intro 400 mixed Try.func83 (by kernel_rfl) rfl ((clNat _).2 trivial) (Nat.le_of_ble_eq_true rfl) ?_; rw [Try.ntmps83, Try.results83]
    simp -dsimp -implicitDefEqProofs only [go_sem, seval, List.length_map, hsw]
    rw [← eA, ← eB]
    have hn0 : ((A.length + 1 : Nat) : Int) ≤ 274877906944 := by omega
    have w0 : wr (((A.length : Nat) : Int) + 1) = ((A.length + 1 : Nat) : Int) := by rw [wr_in] <;> omega
    simp -dsimp -implicitDefEqProofs only [go_sem, seval, List.length_map, w0, Int.natCast_nonneg, Int.le_refl, hn0, Int.toNat_natCast]
    refine ⟨{i : Nat // i ≤ A.length}, fun i => ⟨58, tl [(0, NatA A), (1, NatA B), (5, .sl 0 0 (A.length + 1)), (6, .v (.int .u64 (carW A B i.1))), (20, I (A.length : Nat)), (21, I i.1)], [(0, ⟨1, (fillP (adF A B) (A.length + 1) i.1).map U32C⟩)], 1, .nil⟩, fun i => A.length - i.1,
      ⟨⟨0, by omega⟩, Le.tl (Ls := []) (y := none) [] (by simp -dsimp -implicitDefEqProofs only [go_sem, seval, carW]) ?_ (by simp) (by simp [sg]) trivial⟩, fun i => ?_⟩
    · simp -dsimp -implicitDefEqProofs only [go_sem, seval, fill_0]
      exact renL_cl2 (by rw [List.map_replicate]) ((clU32 _).2 trivial)
    obtain ⟨i, hi⟩ := i
    simp -dsimp -implicitDefEqProofs only [go_sem, seval]
    refine ⟨fun h => ?_, fun h => ?_⟩
    · have hlt : i < A.length := by omega
      have e3 : wr ((i : Int) + 1) = ((i + 1 : Nat) : Int) := by rw [wr_in] <;> omega
      have cb := car_b hA hB i
      have da := okD_get hA i
      have db := okD_get hB i
      have gA := getU (D := A) (i := i) hlt
      have gF := getU (D := fillP (adF A B) (A.length + 1) i) (i := i) (by rw [fill_len]; omega)
      have c2 : (i : Int) < ((A.length + 1 : Nat) : Int) := by omega
      have x0 : IntKind.u64.wrap (A.getD i 0) = A.getD i 0 := wu (by omega) (by omega)
      have x1 : IntKind.u64.wrap (carW A B i + A.getD i 0) = carW A B i + A.getD i 0 := wu (by omega) (by omega)
      have x2 : IntKind.u64.wrap (B.getD i 0) = B.getD i 0 := wu (by omega) (by omega)
      have x3 : IntKind.u64.wrap (carW A B i + A.getD i 0 + B.getD i 0) = carW A B i + A.getD i 0 + B.getD i 0 := wu (by omega) (by omega)
      have hset := fill_set (adF A B) (A.length + 1) i
      by_cases hb : (i : Int) < ((B.length : Nat) : Int)
      · have gB := getU (D := B) (i := i) (by omega)
        have s1 : (carW A B i + A.getD i 0 + B.getD i 0).fdiv (2 ^ min 32 64) = carW A B (i + 1) := by rw [show ((2 : Int) ^ min 32 64) = 4294967296 by decide, Int.fdiv_eq_ediv_of_nonneg _ (by decide)]; rfl
        have x5 : (carW A B i + A.getD i 0 + B.getD i 0) % 4294967296 = adF A B i := rfl
        simp -dsimp -implicitDefEqProofs only [go_sem, seval, List.length_map, Int.natCast_nonneg, Int.toNat_natCast, gA, gB, hb, c2, x0, x1, x2, x3, s1, wu32m, x5, Nat.zero_add, gF, hset]
        refine ⟨⟨i + 1, by omega⟩, by show A.length - (i + 1) < A.length - i; omega, Le.tl (Ls := []) (y := none) [] (by simp -dsimp -implicitDefEqProofs only [go_sem, seval, e3]) ?_ (by simp) (by simp [sg]) trivial⟩
        simp -dsimp -implicitDefEqProofs only [go_sem, seval]
        exact renL_cl rfl ((clU32 _).2 trivial)
      · have hbz : B.getD i 0 = 0 := getD_out (by omega)
        have s1 : (carW A B i + A.getD i 0).fdiv (2 ^ min 32 64) = carW A B (i + 1) := by rw [show ((2 : Int) ^ min 32 64) = 4294967296 by decide, Int.fdiv_eq_ediv_of_nonneg _ (by decide)]; simp only [carW]; rw [hbz, Int.add_zero]
        have x5 : (carW A B i + A.getD i 0) % 4294967296 = adF A B i := by unfold adF; rw [hbz, Int.add_zero]
        simp -dsimp -implicitDefEqProofs only [go_sem, seval, List.length_map, Int.natCast_nonneg, Int.toNat_natCast, gA, hb, c2, x0, x1, s1, wu32m, x5, Nat.zero_add, gF, hset]
        refine ⟨⟨i + 1, by omega⟩, by show A.length - (i + 1) < A.length - i; omega, Le.tl (Ls := []) (y := none) [] (by simp -dsimp -implicitDefEqProofs only [go_sem, seval, e3]) ?_ (by simp) (by simp [sg]) trivial⟩
        simp -dsimp -implicitDefEqProofs only [go_sem, seval]
        exact renL_cl rfl ((clU32 _).2 trivial)
    · have hin : i = A.length := by omega
      have cb := car_b hA hB i
      subst hin
      have c2 : ((A.length : Nat) : Int) < ((A.length + 1 : Nat) : Int) := by omega
      have gF := getU (D := fillP (adF A B) (A.length + 1) A.length) (i := A.length) (by rw [fill_len]; omega)
      have x6 : carW A B A.length % 4294967296 = adF A B A.length := by
        unfold adF
        rw [getD_out (D := A) (Nat.le_refl _), getD_out (D := B) hBA, Int.add_zero, Int.add_zero]
      have hset := fill_set (adF A B) (A.length + 1) A.length
      have hF : fillP (adF A B) (A.length + 1) (A.length + 1) = addI A B (A.length + 1) := by rw [fill_n]; rfl
      have hv : valN (addI A B (A.length + 1)) = valN A + valN B := by
        have h1 := addI_val A B A.length
        rw [List.take_of_length_le (Nat.le_refl _), List.take_of_length_le hBA] at h1
        rw [addI_suc, val_snoc, addI_len, getD_out (D := A) (Nat.le_refl _), getD_out (D := B) hBA, Int.add_zero, Int.add_zero, Int.emod_eq_of_lt (by omega) (by omega)]
        exact h1
      have ht := nat90 (addI A B (A.length + 1)) (by rw [addI_len]; omega) (addI_ok hA hB _)
      rw [hv] at ht
      rw [hF] at hset
      simp -dsimp -implicitDefEqProofs only [go_sem, seval, List.length_map, Int.natCast_nonneg, Int.toNat_natCast, c2, wu32m, x6, Nat.zero_add, gF, hset]
      refine AtFn.pure ht ?_
      simp -dsimp -implicitDefEqProofs only [go_sem, seval, List.length_map, addI_len, takeU, Nat.le_refl, Nat.zero_add]
end

section
set_option maxRecDepth 20000
attribute [local go_sem] clU32 clNat
def borW (a b : List Int) : Nat → Int
  | 0 => 0
  | i + 1 => (borW a b i + a.getD i 0 - b.getD i 0) / 4294967296
def suF (a b : List Int) (j : Nat) : Int := (borW a b j + a.getD j 0 - b.getD j 0) % 4294967296
def subI (a b : List Int) (i : Nat) : List Int := (List.range i).map (suF a b)
theorem bor_b {a b : List Int} (ha : okD a) (hb : okD b) : ∀ i, -1 ≤ borW a b i ∧ borW a b i ≤ 0
  | 0 => by simp [borW]
  | i + 1 => by
    have ih := bor_b ha hb i
    have h1 := okD_get ha i
    have h2 := okD_get hb i
    simp only [borW]
    omega
theorem subI_suc (a b : List Int) (i : Nat) : subI a b (i + 1) = subI a b i ++ [suF a b i] := by simp [subI, List.range_succ]
theorem subI_len (a b : List Int) (i : Nat) : (subI a b i).length = i := by simp [subI]
theorem subI_ok (a b : List Int) (i : Nat) : okD (subI a b i) := by
  intro x hx
  obtain ⟨j, _, rfl⟩ := List.mem_map.1 hx
  unfold suF
  omega
theorem subI_val (a b : List Int) : ∀ i, valN (subI a b i) + 4294967296 ^ i * borW a b i = valN (a.take i) - valN (b.take i)
  | 0 => by simp [subI, borW, valN]
  | i + 1 => by
    have ih := subI_val a b i
    rw [subI_suc, val_snoc, subI_len, val_take, val_take, pow_s]
    simp only [borW, suF]
    obtain ⟨P, hP⟩ : ∃ P, P = (4294967296 : Int) ^ i := ⟨_, rfl⟩
    rw [← hP] at ih ⊢
    have e : 4294967296 * ((borW a b i + a.getD i 0 - b.getD i 0) / 4294967296) + (borW a b i + a.getD i 0 - b.getD i 0) % 4294967296 = borW a b i + a.getD i 0 - b.getD i 0 := Int.mul_ediv_add_emod _ _
    have e2 : P * (4294967296 * ((borW a b i + a.getD i 0 - b.getD i 0) / 4294967296) + (borW a b i + a.getD i 0 - b.getD i 0) % 4294967296) = P * (borW a b i + a.getD i 0 - b.getD i 0) := by rw [e]
    grind
theorem val_lt : ∀ {D : List Int}, okD D → valN D < 4294967296 ^ D.length
  | [], _ => by simp [valN]
  | d :: r, h => by
    have h1 := h d List.mem_cons_self
    have ih := val_lt (D := r) (fun x hx => h x (List.mem_cons_of_mem _ hx))
    simp only [valN, List.length_cons, pow_s]
    omega
theorem pow_pos3 (n : Nat) : (0 : Int) < 4294967296 ^ n := Int.pow_pos (by decide)
theorem sub_end {a b : List Int} (ha : okD a) (hb : okD b) (hl : b.length ≤ a.length) (hv : valN b ≤ valN a) : valN (subI a b a.length) = valN a - valN b := by
  have h := subI_val a b a.length
  rw [List.take_of_length_le (Nat.le_refl _), List.take_of_length_le hl] at h
  have h2 := val_lt (subI_ok a b a.length)
  rw [subI_len] at h2
  have h3 := bor_b ha hb a.length
  have hp := pow_pos3 a.length
  obtain ⟨P, hP⟩ : ∃ P, P = (4294967296 : Int) ^ a.length := ⟨_, rfl⟩
  rw [← hP] at h h2 hp
  have : borW a b a.length = 0 := by
    rcases Int.lt_or_le (borW a b a.length) 0 with q | q
    · have : borW a b a.length = -1 := by omega
      rw [this] at h
      omega
    · omega
  rw [this, Int.mul_zero, Int.add_zero] at h
  exact h
set_option maxHeartbeats 2000000 in
theorem sub85 (A B : List Int) (hA : okD A) (hB : okD B) (hAl : A.length < 1073741824) (hBA : B.length ≤ A.length) (hv : valN B ≤ valN A) : PFun Try.prog 85 [NatA A, NatA B] (NatA (dig (valN A - valN B))) := by
  have hn0 : ((A.length : Nat) : Int) ≤ 274877906944 := by omega
  refine PFun.intro 400 mixed Try.func85 (by kernel_rfl) rfl ((clNat _).2 trivial) (Nat.le_of_ble_eq_true rfl) ?_; rw [Try.ntmps85, Try.results85]
  simp -dsimp -implicitDefEqProofs only [go_sem, seval, List.length_map, Int.natCast_nonneg, Int.le_refl, hn0, Int.toNat_natCast]
  refine ⟨{i : Nat // i ≤ A.length}, fun i => ⟨44, tl [(0, NatA A), (1, NatA B), (5, .sl 0 0 A.length), (6, I (borW A B i.1)), (12, I (A.length : Nat)), (13, I i.1)], [(0, ⟨1, (fillP (suF A B) A.length i.1).map U32C⟩)], 1, .nil⟩, fun i => A.length - i.1,
    ⟨⟨0, by omega⟩, Le.tl (Ls := []) (y := none) [] (by simp -dsimp -implicitDefEqProofs only [go_sem, seval, borW]) ?_ (by simp) (by simp [sg]) trivial⟩, fun i => ?_⟩
  · simp -dsimp -implicitDefEqProofs only [go_sem, seval, fill_0]
    exact renL_cl2 (by rw [List.map_replicate]) ((clU32 _).2 trivial)
  obtain ⟨i, hi⟩ := i
  simp -dsimp -implicitDefEqProofs only [go_sem, seval]
  refine ⟨fun h => ?_, fun h => ?_⟩
  · have hlt : i < A.length := by omega
    have e3 : wr ((i : Int) + 1) = ((i + 1 : Nat) : Int) := by rw [wr_in] <;> omega
    have cb := bor_b hA hB i
    have da := okD_get hA i
    have db := okD_get hB i
    have gA := getU (D := A) (i := i) hlt
    have gF := getU (D := fillP (suF A B) A.length i) (i := i) (by rw [fill_len]; omega)
    have c2 : (i : Int) < ((A.length : Nat) : Int) := by omega
    have x0 : wr (A.getD i 0) = A.getD i 0 := wr_in (by omega) (by omega)
    have x1 : wr (borW A B i + A.getD i 0) = borW A B i + A.getD i 0 := wr_in (by omega) (by omega)
    have x2 : wr (B.getD i 0) = B.getD i 0 := wr_in (by omega) (by omega)
    have x3 : wr (borW A B i + A.getD i 0 - B.getD i 0) = borW A B i + A.getD i 0 - B.getD i 0 := wr_in (by omega) (by omega)
    have hset := fill_set (suF A B) A.length i
    by_cases hb : (i : Int) < ((B.length : Nat) : Int)
    · have gB := getU (D := B) (i := i) (by omega)
      have s1 : (borW A B i + A.getD i 0 - B.getD i 0).fdiv (2 ^ min 32 64) = borW A B (i + 1) := by rw [show ((2 : Int) ^ min 32 64) = 4294967296 by decide, Int.fdiv_eq_ediv_of_nonneg _ (by decide)]; rfl
      have x5 : (borW A B i + A.getD i 0 - B.getD i 0) % 4294967296 = suF A B i := rfl
      simp -dsimp -implicitDefEqProofs only [go_sem, seval, List.length_map, Int.natCast_nonneg, Int.toNat_natCast, gA, gB, hb, c2, x0, x1, x2, x3, s1, wu32m, x5, Nat.zero_add, gF, hset]
      refine ⟨⟨i + 1, by omega⟩, by show A.length - (i + 1) < A.length - i; omega, Le.tl (Ls := []) (y := none) [] (by simp -dsimp -implicitDefEqProofs only [go_sem, seval, e3]) ?_ (by simp) (by simp [sg]) trivial⟩
      simp -dsimp -implicitDefEqProofs only [go_sem, seval]
      exact renL_cl rfl ((clU32 _).2 trivial)
    · have hbz : B.getD i 0 = 0 := getD_out (by omega)
      have s1 : (borW A B i + A.getD i 0).fdiv (2 ^ min 32 64) = borW A B (i + 1) := by rw [show ((2 : Int) ^ min 32 64) = 4294967296 by decide, Int.fdiv_eq_ediv_of_nonneg _ (by decide)]; simp only [borW]; rw [hbz, Int.sub_zero]
      have x5 : (borW A B i + A.getD i 0) % 4294967296 = suF A B i := by unfold suF; rw [hbz, Int.sub_zero]
      simp -dsimp -implicitDefEqProofs only [go_sem, seval, List.length_map, Int.natCast_nonneg, Int.toNat_natCast, gA, hb, c2, x0, x1, s1, wu32m, x5, Nat.zero_add, gF, hset]
      refine ⟨⟨i + 1, by omega⟩, by show A.length - (i + 1) < A.length - i; omega, Le.tl (Ls := []) (y := none) [] (by simp -dsimp -implicitDefEqProofs only [go_sem, seval, e3]) ?_ (by simp) (by simp [sg]) trivial⟩
      simp -dsimp -implicitDefEqProofs only [go_sem, seval]
      exact renL_cl rfl ((clU32 _).2 trivial)
  · have hin : i = A.length := by omega
    subst hin
    have hF : fillP (suF A B) A.length A.length = subI A B A.length := by rw [fill_n]; rfl
    have ht := nat90 (subI A B A.length) (by rw [subI_len]; omega) (subI_ok A B _)
    rw [sub_end hA hB hBA hv] at ht
    rw [hF]
    refine AtFn.pure ht ?_
    simp -dsimp -implicitDefEqProofs only [go_sem, seval, List.length_map, subI_len, takeU, Nat.le_refl, Nat.zero_add]
theorem dig_len_lt {n m : Int} (hn : 0 ≤ n) (hm : 0 ≤ m) (h : (dig n).length < (dig m).length) : n < m := by
  have h1 := val_lt (dig_ok n)
  rw [dig_val hn] at h1
  rcases Int.lt_or_le n m with q | q
  · exact q
  · exfalso
    -- m ≤ n, so m has no more digits
    have key : ∀ (f : Nat) (n m : Int), m.toNat ≤ f → 0 ≤ m → m ≤ n → (dig m).length ≤ (dig n).length := by
      intro f
      induction f with
      | zero => intro n m hf h0 hle; rw [dig_0 (by omega : m ≤ 0)]; simp
      | succ f ih =>
        intro n m hf h0 hle
        by_cases hz : m ≤ 0
        · rw [dig_0 hz]; simp
        · rw [dig_s (by omega : 0 < m), dig_s (by omega : 0 < n)]
          have := ih (n / 4294967296) (m / 4294967296) (by omega) (by omega) (by omega)
          simpa using this
    have := key m.toNat n m (Nat.le_refl _) hm q
    omega
theorem dig_len_mono {n m : Int} (hm : 0 ≤ m) (h : m ≤ n) : (dig m).length ≤ (dig n).length := by
  rcases Nat.lt_or_ge (dig n).length (dig m).length with q | q
  · have := dig_len_lt (by omega) hm q
    omega
  · exact q
end

section
set_option maxRecDepth 20000
attribute [local go_sem] clU32 clNat
theorem val_app : ∀ (X Y : List Int), valN (X ++ Y) = valN X + 4294967296 ^ X.length * valN Y
  | [], Y => by simp [valN]
  | x :: r, Y => by
    simp only [List.cons_append, valN, val_app r Y, List.length_cons, pow_s]
    rw [Int.mul_add, Int.mul_assoc]
    omega
theorem okD_take {D : List Int} (h : okD D) (i : Nat) : okD (D.take i) := fun x hx => h x (List.mem_of_mem_take hx)
theorem drop_get (D : List Int) (j : Nat) (h : j < D.length) : D.drop j = D.getD j 0 :: D.drop (j + 1) := by
  rw [List.drop_eq_getElem_cons h]
  simp [List.getD, h]
theorem cmp_top {D E : List Int} (hD : okD D) (hE : okD E) (hl : D.length = E.length) {j : Nat} (hj : j < D.length) (he : D.drop (j + 1) = E.drop (j + 1)) (hlt : D.getD j 0 < E.getD j 0) : valN D < valN E := by
  have e1 : valN D = valN (D.take j) + 4294967296 ^ j * valN (D.drop j) := by
    conv => lhs; rw [← List.take_append_drop j D]
    rw [val_app, List.length_take, Nat.min_eq_left (by omega)]
  have e2 : valN E = valN (E.take j) + 4294967296 ^ j * valN (E.drop j) := by
    conv => lhs; rw [← List.take_append_drop j E]
    rw [val_app, List.length_take, Nat.min_eq_left (by omega)]
  rw [drop_get D j hj] at e1
  rw [drop_get E j (by omega), ← he] at e2
  simp only [valN] at e1 e2
  have b1 := val_lt (okD_take hD j)
  rw [List.length_take, Nat.min_eq_left (by omega)] at b1
  have b2 := val_nn (okD_take hE j)
  have hp := pow_pos3 j
  obtain ⟨P, hP⟩ : ∃ P, P = (4294967296 : Int) ^ j := ⟨_, rfl⟩
  rw [← hP] at e1 e2 b1 hp
  have hm : P * (D.getD j 0 + 1) ≤ P * E.getD j 0 := Int.mul_le_mul_of_nonneg_left (by omega) (by omega)
  rw [Int.mul_add] at e1 e2
  rw [Int.mul_add, Int.mul_one] at hm
  omega
def cmpW (n m : Int) : Int := if (dig n).length ≠ (dig m).length then ((dig n).length : Int) - (dig m).length else if n < m then -1 else if n = m then 0 else 1
theorem cmp_lt {n m : Int} (hn : 0 ≤ n) (hm : 0 ≤ m) : (cmpW n m < 0 ↔ n < m) ∧ (cmpW n m = 0 ↔ n = m) ∧ (0 < cmpW n m ↔ m < n) := by
  unfold cmpW
  split
  · rename_i h
    rcases Nat.lt_or_gt_of_ne h with q | q
    · have := dig_len_lt hn hm q
      omega
    · have := dig_len_lt hm hn q
      omega
  · split
    · omega
    · split <;> omega
set_option maxHeartbeats 2000000 in
theorem cmp84 (n m : Int) (hn : 0 ≤ n) (hm : 0 ≤ m) (h1 : (dig n).length < 1073741824) (h2 : (dig m).length < 1073741824) : PFun Try.prog 84 [NatA (dig n), NatA (dig m)] (I (cmpW n m)) := by
  obtain ⟨D, eD⟩ : ∃ D, D = dig n := ⟨_, rfl⟩
  obtain ⟨E, eE⟩ : ∃ E, E = dig m := ⟨_, rfl⟩
  have hD : okD D := eD ▸ dig_ok n
  have hE : okD E := eE ▸ dig_ok m
  have vD : valN D = n := by rw [eD, dig_val hn]
  have vE : valN E = m := by rw [eE, dig_val hm]
  unfold cmpW
  rw [← eD, ← eE]
  rw [← eD] at h1
  rw [← eE] at h2
  by_cases hl : D.length = E.length
  · rw [if_neg (by simpa using hl)]
    have hl' : ((D.length : Nat) : Int) = ((E.length : Nat) : Int) := by omega
    have w1 : wr (((D.length : Nat) : Int) - 1) = cnt D.length := by
      cases hc : D.length with
      | zero => decide
      | succ k => rw [cnt_s, wr_in] <;> omega
    refine PFun.intro 400 mixed Try.func84 (by kernel_rfl) rfl (by first | exact .v _ | (simp [Cl_v, Cl_t, Cl_g, Cl_fn, Cl_rp, Cl_ro]; done) | (simp [Cl_v, Cl_t, Cl_g, Cl_fn, Cl_rp, Cl_ro, or_imp, forall_and]; done) | (split <;> simp [Cl_v, Cl_t, Cl_g, Cl_fn, Cl_rp, Cl_ro])) (Nat.le_of_ble_eq_true rfl) ?_; rw [Try.ntmps84, Try.results84]
    simp -dsimp -implicitDefEqProofs only [go_sem, seval, List.length_map, hl', w1]
    simp -dsimp -implicitDefEqProofs only [go_sem, seval, ← hl', w1]
    refine ⟨{i : Nat // i ≤ D.length ∧ D.drop i = E.drop i}, fun i => ⟨41, tl [(0, NatA D), (1, NatA E), (5, I (cnt i.1))], [], 0, .nil⟩, fun i => i.1,
      ⟨⟨D.length, Nat.le_refl _, by rw [List.drop_length, hl, List.drop_length]⟩, Le.tl (Ls := []) (y := none) [] (by simp -dsimp -implicitDefEqProofs only [go_sem, seval]) (by simp) (by simp) (by simp) trivial⟩, fun i => ?_⟩
    obtain ⟨i, hi, hd⟩ := i
    cases i with
    | zero =>
      simp -dsimp -implicitDefEqProofs only [go_sem, seval, cnt_0]
      have : n = m := by rw [← vD, ← vE, ← List.drop_zero (l := D), ← List.drop_zero (l := E), hd]
      rw [if_neg (by omega), if_pos this]
    | succ j =>
      have gD := getU (D := D) (i := j) (by omega)
      have gE := getU (D := E) (i := j) (by omega)
      have w3 : wr ((j : Int) - 1) = cnt j := by
        cases j with
        | zero => rfl
        | succ i => rw [cnt_s, wr_in (by omega) (by omega)]; omega
      simp -dsimp -implicitDefEqProofs only [go_sem, seval, cnt_s, Int.natCast_nonneg]
      refine AtCode.draw 9 [([], []), ([], []), ([0, 1], []), ([0, 1, 2], []), ([], []), ([], []), ([4, 5], []), ([4, 5, 6], []), ([0, 1, 2, 3, 4, 5, 6, 7], [])] (by kernel_rfl) ?_
      simp -dsimp -implicitDefEqProofs only [go_sem, seval, cnt_s, Int.natCast_nonneg, Int.toNat_natCast, gD, gE]
      refine ⟨fun he => ?_, fun he => ?_⟩
      · refine ⟨⟨j, by omega, by rw [drop_get D j (by omega), drop_get E j (by omega), he, hd]⟩, by show j < j + 1; omega, Le.tl (Ls := []) (y := none) [] (by simp -dsimp -implicitDefEqProofs only [go_sem, seval, w3]) (by simp) (by simp) (by simp) trivial⟩
      · refine AtCode.draw 9 [([], []), ([], []), ([0, 1], []), ([0, 1, 2], []), ([], []), ([], []), ([4, 5], []), ([4, 5, 6], []), ([0, 1, 2, 3, 4, 5, 6, 7], [])] (by kernel_rfl) ?_
        simp -dsimp -implicitDefEqProofs only [go_sem, seval, cnt_s, Int.natCast_nonneg, Int.toNat_natCast, gD, gE]
        refine ⟨fun hlt => ?_, fun hlt => ?_⟩
        · have := cmp_top hD hE hl (by omega) hd hlt
          rw [if_pos (by omega)]
        · have := cmp_top hE hD hl.symm (by omega) hd.symm (show E.getD j 0 < D.getD j 0 by omega)
          rw [if_neg (by omega), if_neg (by omega)]
  · rw [if_pos hl]
    have hl' : ¬ ((D.length : Nat) : Int) = ((E.length : Nat) : Int) := by omega
    have w1 : wr (((D.length : Nat) : Int) - ((E.length : Nat) : Int)) = ((D.length : Nat) : Int) - ((E.length : Nat) : Int) := wr_in (by omega) (by omega)
    refine PFun.intro 400 mixed Try.func84 (by kernel_rfl) rfl (by first | exact .v _ | (simp [Cl_v, Cl_t, Cl_g, Cl_fn, Cl_rp, Cl_ro]; done) | (simp [Cl_v, Cl_t, Cl_g, Cl_fn, Cl_rp, Cl_ro, or_imp, forall_and]; done) | (split <;> simp [Cl_v, Cl_t, Cl_g, Cl_fn, Cl_rp, Cl_ro])) (Nat.le_of_ble_eq_true rfl) ?_; rw [Try.ntmps84, Try.results84]
    simp -dsimp -implicitDefEqProofs only [go_sem, seval, List.length_map, hl', w1]
end

section
set_option maxRecDepth 20000
attribute [local go_sem] clU32 clNat
theorem val_set {D : List Int} {k : Nat} (d : Int) (h : k < D.length) : valN (D.set k d) = valN D + 4294967296 ^ k * (d - D.getD k 0) := by
  have e1 : valN D = valN (D.take k) + 4294967296 ^ k * valN (D.drop k) := by
    conv => lhs; rw [← List.take_append_drop k D]
    rw [val_app, List.length_take, Nat.min_eq_left (by omega)]
  have e2 : D.set k d = D.take k ++ d :: D.drop (k + 1) := List.set_eq_take_append_cons_drop ▸ by rw [if_pos h]
  rw [e2, val_app, List.length_take, Nat.min_eq_left (by omega), e1, drop_get D k h]
  simp only [valN]
  obtain ⟨P, hP⟩ : ∃ P, P = (4294967296 : Int) ^ k := ⟨_, rfl⟩
  rw [← hP]
  grind
theorem okD_set {D : List Int} (h : okD D) (k : Nat) {d : Int} (hd : 0 ≤ d ∧ d < 4294967296) : okD (D.set k d) := by
  intro x hx
  rcases List.mem_or_eq_of_mem_set hx with hx | rfl
  · exact h x hx
  · exact hd
theorem getD_setI {D : List Int} {i j : Nat} {d : Int} (h : j < D.length) : (D.set i d).getD j 0 = if i = j then d else D.getD j 0 := by
  simp only [List.getD, List.getElem?_set]
  split
  · rename_i e; subst e; simp [h]
  · rfl
theorem okD_rep (n : Nat) : okD (List.replicate n 0) := fun x hx => by rw [List.eq_of_mem_replicate hx]; decide
theorem val_rep : ∀ n, valN (List.replicate n 0) = 0
  | 0 => rfl
  | n + 1 => by simp [List.replicate_succ, valN, val_rep n]
theorem mul_b {a b : Int} (h1 : 0 ≤ a ∧ a < 4294967296) (h2 : 0 ≤ b ∧ b < 4294967296) : 0 ≤ a * b ∧ a * b ≤ 18446744065119617025 := by
  have := mul_bd (a := a) (A := 4294967295) (b := b) (B := 4294967295) (by omega) (by omega) (by omega) (by omega)
  exact ⟨Int.mul_nonneg h1.1 h2.1, by omega⟩
theorem setU (D : List Int) (i : Nat) (d : Int) : (D.map U32C).set i (U32C d) = (D.set i d).map U32C := by rw [List.map_set]
def MulO (A B : List Int) (i : Nat) (O : List Int) : Prop := O.length = A.length + B.length ∧ okD O ∧ valN O = valN (A.take i) * valN B ∧ ∀ k, i + B.length ≤ k → O.getD k 0 = 0
def MulI (A B : List Int) (i j : Nat) (O : List Int) (c : Int) : Prop := O.length = A.length + B.length ∧ okD O ∧ (0 ≤ c ∧ c < 4294967296) ∧ valN O + 4294967296 ^ (i + j) * c = valN (A.take i) * valN B + 4294967296 ^ i * (A.getD i 0 * valN (B.take j)) ∧ ∀ k, i + B.length ≤ k → O.getD k 0 = 0
theorem mulI_step {A B O : List Int} {i j : Nat} {c : Int} (hA : okD A) (hB : okD B) (h : MulI A B i j O c) (hi : i < A.length) (hj : j < B.length) :
    MulI A B i (j + 1) (O.set (i + j) ((c + (A.getD i 0 * B.getD j 0 + O.getD (i + j) 0)) % 4294967296)) ((c + (A.getD i 0 * B.getD j 0 + O.getD (i + j) 0)) / 4294967296) := by
  obtain ⟨h1, h2, h3, h4, h5⟩ := h
  have da := okD_get hA i
  have db := okD_get hB j
  have dO := okD_get h2 (i + j)
  have hm := mul_b da db
  obtain ⟨t, ht⟩ : ∃ t, t = c + (A.getD i 0 * B.getD j 0 + O.getD (i + j) 0) := ⟨_, rfl⟩
  rw [← ht]
  refine ⟨by rw [List.length_set]; exact h1, okD_set h2 _ (by omega), by omega, ?_, fun k hk => ?_⟩
  · rw [val_set _ (by omega), val_take, show i + (j + 1) = (i + j) + 1 by omega, pow_s]
    have e : 4294967296 * (t / 4294967296) + t % 4294967296 = t := Int.mul_ediv_add_emod _ _
    have ep : (4294967296 : Int) ^ (i + j) = 4294967296 ^ i * 4294967296 ^ j := Int.pow_add _ _ _
    rw [ep] at h4 ⊢
    obtain ⟨P, hP⟩ : ∃ P, P = (4294967296 : Int) ^ i := ⟨_, rfl⟩
    obtain ⟨Q, hQ⟩ : ∃ Q, Q = (4294967296 : Int) ^ j := ⟨_, rfl⟩
    rw [← hP, ← hQ] at h4 ⊢
    have e2 : P * Q * (4294967296 * (t / 4294967296) + t % 4294967296) = P * Q * t := by rw [e]
    rw [ht] at e2 ⊢
    grind
  · rw [List.getD]
    by_cases hk2 : k < O.length
    · have := getD_setI (D := O) (i := i + j) (j := k) (d := t % 4294967296) hk2
      rw [List.getD] at this
      rw [this, if_neg (by omega)]
      exact h5 k hk
    · rw [List.getElem?_eq_none (by rw [List.length_set]; omega)]; rfl
theorem mulO_step {A B O : List Int} {i : Nat} {c : Int} (hA : okD A) (hB : okD B) (h : MulI A B i B.length O c) (hi : i < A.length) : MulO A B (i + 1) (O.set (i + B.length) c) := by
  obtain ⟨h1, h2, h3, h4, h5⟩ := h
  refine ⟨by rw [List.length_set]; exact h1, okD_set h2 _ h3, ?_, fun k hk => ?_⟩
  · rw [val_set _ (by omega), h5 _ (Nat.le_refl _), val_take, Int.sub_zero]
    rw [List.take_of_length_le (Nat.le_refl _)] at h4
    rw [h4]
    grind
  · rw [List.getD]
    by_cases hk2 : k < O.length
    · have := getD_setI (D := O) (i := i + B.length) (j := k) (d := c) hk2
      rw [List.getD] at this
      rw [this, if_neg (by omega)]
      exact h5 k (by omega)
    · rw [List.getElem?_eq_none (by rw [List.length_set]; omega)]; rfl
set_option maxHeartbeats 4000000 in
theorem mul82 (A B : List Int) (hA : okD A) (hB : okD B) (hAl : A.length < 1073741824) (hBl : B.length < 1073741824) : PFun Try.prog 82 [NatA A, NatA B] (NatA (dig (valN A * valN B))) := by
  have hn0 : ((A.length + B.length : Nat) : Int) ≤ 274877906944 := by omega
  have w0 : wr (((A.length : Nat) : Int) + ((B.length : Nat) : Int)) = ((A.length + B.length : Nat) : Int) := by rw [wr_in] <;> omega
  refine PFun.intro 400 mixed Try.func82 (by kernel_rfl) rfl ((clNat _).2 trivial) (Nat.le_of_ble_eq_true rfl) ?_; rw [Try.ntmps82, Try.results82]
  simp -dsimp -implicitDefEqProofs only [go_sem, seval, List.length_map, w0, Int.natCast_nonneg, Int.le_refl, hn0, Int.toNat_natCast]
  refine ⟨{p : Nat × List Int // p.1 ≤ A.length ∧ MulO A B p.1 p.2}, fun p => ⟨67, tl [(1, NatA B), (5, .sl 0 0 (A.length + B.length)), (17, NatA A), (18, I (A.length : Nat)), (19, I p.1.1)], [(0, ⟨1, p.1.2.map U32C⟩)], 1, .nil⟩, fun p => A.length - p.1.1,
    ⟨⟨(0, List.replicate (A.length + B.length) 0), by omega, by simp, okD_rep _, by rw [val_rep]; simp [valN], fun k _ => by
      by_cases hk : k < A.length + B.length
      · simp [List.getD, hk]
      · exact getD_out (by rw [List.length_replicate]; omega)⟩, Le.tl (Ls := []) (y := none) [] (by simp -dsimp -implicitDefEqProofs only [go_sem, seval]) ?_ (by simp) (by simp [sg]) trivial⟩, fun p => ?_⟩
  · simp -dsimp -implicitDefEqProofs only [go_sem, seval]
    exact renL_cl2 (by rw [List.map_replicate]) ((clU32 _).2 trivial)
  obtain ⟨⟨i, O⟩, hi, hO⟩ := p
  simp only at hi hO
  simp -dsimp -implicitDefEqProofs only [go_sem, seval]
  refine ⟨fun h => ?_, fun h => ?_⟩
  · have hlt : i < A.length := by omega
    have e3 : wr ((i : Int) + 1) = ((i + 1 : Nat) : Int) := by rw [wr_in] <;> omega
    have gA := getU (D := A) (i := i) hlt
    simp -dsimp -implicitDefEqProofs only [go_sem, seval, List.length_map, Int.natCast_nonneg, Int.toNat_natCast, gA]
    refine ⟨{p : Nat × List Int × Int // p.1 ≤ B.length ∧ MulI A B i p.1 p.2.1 p.2.2}, fun p => ⟨67, tl [(1, NatA B), (5, .sl 0 0 (A.length + B.length)), (6, I (i : Nat)), (7, .v (.int .u32 (A.getD i 0))), (8, .v (.int .u64 p.1.2.2)), (17, NatA A), (18, I (A.length : Nat)), (19, I (i : Nat)), (24, NatA B), (25, I (B.length : Nat)), (26, I p.1.1)], [(0, ⟨1, p.1.2.1.map U32C⟩)], 1, .nil⟩, fun p => B.length - p.1.1,
      ⟨⟨(0, O, 0), by omega, hO.1, hO.2.1, ⟨Int.le_refl _, by show (0 : Int) < 4294967296; decide⟩, by show valN O + _ * 0 = _; rw [hO.2.2.1]; simp [valN], hO.2.2.2⟩, Le.tl (Ls := []) (y := none) [] (by simp -dsimp -implicitDefEqProofs only [go_sem, seval]) ?_ (by simp) (by simp [sg]) trivial⟩, fun p => ?_⟩
    · simp -dsimp -implicitDefEqProofs only [go_sem, seval]
      exact renL_cl rfl ((clU32 _).2 trivial)
    obtain ⟨⟨j, O1, c⟩, hj, hI⟩ := p
    simp only at hj hI
    simp -dsimp -implicitDefEqProofs only [go_sem, seval]
    refine ⟨fun h9 => ?_, fun h9 => ?_⟩
    · have hjl : j < B.length := by omega
      have f3 : wr ((j : Int) + 1) = ((j + 1 : Nat) : Int) := by rw [wr_in] <;> omega
      have f4 : wr ((i : Int) + (j : Int)) = ((i + j : Nat) : Int) := by rw [wr_in] <;> omega
      have gB := getU (D := B) (i := j) hjl
      have gO := getU (D := O1) (i := i + j) (by rw [hI.1]; omega)
      have da := okD_get hA i
      have db := okD_get hB j
      have dO := okD_get hI.2.1 (i + j)
      have hc := hI.2.2.1
      have hm := mul_b da db
      have x1 : IntKind.u64.wrap (A.getD i 0) = A.getD i 0 := wu (by omega) (by omega)
      have x2 : IntKind.u64.wrap (B.getD j 0) = B.getD j 0 := wu (by omega) (by omega)
      have x3 : IntKind.u64.wrap (A.getD i 0 * B.getD j 0) = A.getD i 0 * B.getD j 0 := wu (by omega) (by omega)
      have x4 : IntKind.u64.wrap (O1.getD (i + j) 0) = O1.getD (i + j) 0 := wu (by omega) (by omega)
      have x5 : IntKind.u64.wrap (A.getD i 0 * B.getD j 0 + O1.getD (i + j) 0) = A.getD i 0 * B.getD j 0 + O1.getD (i + j) 0 := wu (by omega) (by omega)
      have x6 : IntKind.u64.wrap (c + (A.getD i 0 * B.getD j 0 + O1.getD (i + j) 0)) = c + (A.getD i 0 * B.getD j 0 + O1.getD (i + j) 0) := wu (by omega) (by omega)
      have s1 : (c + (A.getD i 0 * B.getD j 0 + O1.getD (i + j) 0)).fdiv (2 ^ min 32 64) = (c + (A.getD i 0 * B.getD j 0 + O1.getD (i + j) 0)) / 4294967296 := by rw [show ((2 : Int) ^ min 32 64) = 4294967296 by decide, Int.fdiv_eq_ediv_of_nonneg _ (by decide)]
      have c2 : ((i + j : Nat) : Int) < ((A.length + B.length : Nat) : Int) := by omega
      have hst := mulI_step hA hB hI hlt hjl
      simp -dsimp -implicitDefEqProofs only [go_sem, seval, List.length_map, Int.natCast_nonneg, Int.toNat_natCast, gB, f4, c2, x1, x2, x3, Nat.zero_add, gO, x4, x5, x6, s1, wu32m, setU]
      refine ⟨⟨(j + 1, _, _), by show j + 1 ≤ B.length; omega, hst⟩, by show B.length - (j + 1) < B.length - j; omega, Le.tl (Ls := []) (y := none) [] (by simp -dsimp -implicitDefEqProofs only [go_sem, seval, f3]) ?_ (by simp) (by simp [sg]) trivial⟩
      simp -dsimp -implicitDefEqProofs only [go_sem, seval]
      exact renL_cl rfl ((clU32 _).2 trivial)
    · have hjl : j = B.length := by omega
      subst hjl
      have f4 : wr ((i : Int) + (B.length : Int)) = ((i + B.length : Nat) : Int) := by rw [wr_in] <;> omega
      have gO := getU (D := O1) (i := i + B.length) (by rw [hI.1]; omega)
      have c2 : ((i + B.length : Nat) : Int) < ((A.length + B.length : Nat) : Int) := by omega
      have hc := hI.2.2.1
      have x7 : c % 4294967296 = c := by omega
      have hst := mulO_step hA hB hI hlt
      simp -dsimp -implicitDefEqProofs only [go_sem, seval, List.length_map, Int.natCast_nonneg, Int.toNat_natCast, f4, c2, wu32m, x7, Nat.zero_add, gO, setU]
      refine ⟨⟨(i + 1, _), by show i + 1 ≤ A.length; omega, hst⟩, by show A.length - (i + 1) < A.length - i; omega, Le.tl (Ls := []) (y := none) [] (by simp -dsimp -implicitDefEqProofs only [go_sem, seval, e3]) ?_ (by simp) (by simp [sg]) trivial⟩
      simp -dsimp -implicitDefEqProofs only [go_sem, seval]
      exact renL_cl rfl ((clU32 _).2 trivial)
  · have hin : i = A.length := by omega
    subst hin
    obtain ⟨h1, h2, h3, _⟩ := hO
    rw [List.take_of_length_le (Nat.le_refl _)] at h3
    have ht := nat90 O (by omega) h2
    rw [h3] at ht
    refine AtFn.pure ht ?_
    simp -dsimp -implicitDefEqProofs only [go_sem, seval, List.length_map, takeU, Nat.le_refl, Nat.zero_add, h1]
end

section
set_option maxRecDepth 20000
attribute [local go_sem] clU32 clNat
abbrev BigC (z : Int) : List AV := [Bo (decide (z < 0)), NatA (dig (z.natAbs : Int))]
abbrev BigA (z : Int) : AV := .g (BigC z)
theorem clBig (z : Int) : Cl (BigA z) := by
  simp only [Cl_g, List.mem_cons, List.not_mem_nil, or_false, forall_eq_or_imp, forall_eq, Cl_v, clNat, and_self]
theorem clBigT (z : Int) : Cl (BigA z) ↔ True := iff_true_intro (clBig z)
theorem clBigC (z : Int) : (∀ s ∈ BigC z, Cl s) ↔ True := iff_true_intro (by simp only [List.mem_cons, List.not_mem_nil, or_false, forall_eq_or_imp, forall_eq, Cl_v, clNat, and_self])
attribute [local go_sem] clBigT clBigC
theorem clG (b : Bool) (D : List Int) : Cl (.g [Bo b, NatA D]) := by
  simp only [Cl_g, List.mem_cons, List.not_mem_nil, or_false, forall_eq_or_imp, forall_eq, Cl_v, clNat, and_self]
def szB (z : Int) : Prop := (dig (z.natAbs : Int)).length < 536870912
theorem dig_pos {n : Int} (h : 0 ≤ n) : (0 : Int) < (((dig n).length : Nat) : Int) ↔ 0 < n := by
  have := dig_nil h
  constructor
  · intro q
    rcases Int.lt_or_le 0 n with r | r
    · exact r
    · rw [dig_0 r] at q; simp at q
  · intro q
    have : dig n ≠ [] := fun e => by have := this.1 e; omega
    have := List.length_pos_iff.2 this
    omega
theorem neg80 (z : Int) : PFun Try.prog 80 [BigA z] (BigA (-z)) := by
  have e : ((-z).natAbs : Int) = (z.natAbs : Int) := by omega
  have hp := dig_pos (n := (z.natAbs : Int)) (by omega)
  unfold BigA BigC
  rw [e]
  by_cases h1 : z < 0
  · have h2 : ¬ -z < 0 := by omega
    refine PFun.intro 400 mixed Try.func80 (by kernel_rfl) rfl ((by have := clBig (-z); unfold BigA BigC at this; rw [e] at this; exact this)) (Nat.le_of_ble_eq_true rfl) ?_; rw [Try.ntmps80, Try.results80]
    simp -dsimp -implicitDefEqProofs only [go_sem, seval, List.length_map, h1, h2]
  · by_cases h3 : (0 : Int) < (((dig (z.natAbs : Int)).length : Nat) : Int)
    · have h2 : -z < 0 := by omega
      refine PFun.intro 400 mixed Try.func80 (by kernel_rfl) rfl ((by have := clBig (-z); unfold BigA BigC at this; rw [e] at this; exact this)) (Nat.le_of_ble_eq_true rfl) ?_; rw [Try.ntmps80, Try.results80]
      simp -dsimp -implicitDefEqProofs only [go_sem, seval, List.length_map, h1, h2, h3]
    · have h2 : ¬ -z < 0 := by omega
      refine PFun.intro 400 mixed Try.func80 (by kernel_rfl) rfl ((by have := clBig (-z); unfold BigA BigC at this; rw [e] at this; exact this)) (Nat.le_of_ble_eq_true rfl) ?_; rw [Try.ntmps80, Try.results80]
      simp -dsimp -implicitDefEqProofs only [go_sem, seval, List.length_map, h1, h2, h3]
theorem times69 (z w : Int) (hz : szB z) (hw : szB w) : PFun Try.prog 69 [BigA z, BigA w] (BigA (z * w)) := by
  unfold szB at hz hw
  have hm := mul82 (dig (z.natAbs : Int)) (dig (w.natAbs : Int)) (dig_ok _) (dig_ok _) (by omega) (by omega)
  rw [dig_val (by omega), dig_val (by omega)] at hm
  have e : ((z * w).natAbs : Int) = (z.natAbs : Int) * (w.natAbs : Int) := by rw [Int.natAbs_mul]; push_cast; rfl
  have hp := dig_pos (n := ((z * w).natAbs : Int)) (by omega)
  rw [e] at hp
  have hsgn : decide (z * w < 0) = (decide (decide (z < 0) ≠ decide (w < 0)) && decide ((0 : Int) < (((dig ((z.natAbs : Int) * (w.natAbs : Int))).length : Nat) : Int))) := by
    rw [Bool.eq_iff_iff]
    simp only [decide_eq_true_eq, Bool.and_eq_true, hp]
    rcases Int.lt_trichotomy z 0 with a | a | a <;> rcases Int.lt_trichotomy w 0 with b | b | b
    · have := Int.mul_pos_of_neg_of_neg a b; simp [a, b]; omega
    · subst b; simp
    · have := Int.mul_neg_of_neg_of_pos a b; simp [a, show ¬ w < 0 by omega, this]; omega
    · subst a; simp
    · subst a; simp
    · subst a; simp
    · have := Int.mul_neg_of_pos_of_neg a b; simp [b, show ¬ z < 0 by omega, this]; omega
    · subst b; simp
    · have := Int.mul_pos a b; simp [show ¬ w < 0 by omega, show ¬ z < 0 by omega]; omega
  unfold BigA BigC
  rw [e, hsgn]
  obtain ⟨P, hP⟩ : ∃ P, P = (z.natAbs : Int) * (w.natAbs : Int) := ⟨_, rfl⟩
  rw [← hP] at hm ⊢
  clear hsgn hp e
  cases decide (z < 0) <;> cases decide (w < 0)
  · refine PFun.intro 400 mixed Try.func69 (by kernel_rfl) rfl (clG _ _) (Nat.le_of_ble_eq_true rfl) ?_; rw [Try.ntmps69, Try.results69]
    simp -dsimp -implicitDefEqProofs only [go_sem, seval]
    refine AtFn.pure0 hm ?_
    simp -dsimp -implicitDefEqProofs only [go_sem, seval, List.length_map]
  · refine PFun.intro 400 mixed Try.func69 (by kernel_rfl) rfl (clG _ _) (Nat.le_of_ble_eq_true rfl) ?_; rw [Try.ntmps69, Try.results69]
    simp -dsimp -implicitDefEqProofs only [go_sem, seval]
    refine AtFn.pure0 hm ?_
    simp -dsimp -implicitDefEqProofs only [go_sem, seval, List.length_map]
  · refine PFun.intro 400 mixed Try.func69 (by kernel_rfl) rfl (clG _ _) (Nat.le_of_ble_eq_true rfl) ?_; rw [Try.ntmps69, Try.results69]
    simp -dsimp -implicitDefEqProofs only [go_sem, seval]
    refine AtFn.pure0 hm ?_
    simp -dsimp -implicitDefEqProofs only [go_sem, seval, List.length_map]
  · refine PFun.intro 400 mixed Try.func69 (by kernel_rfl) rfl (clG _ _) (Nat.le_of_ble_eq_true rfl) ?_; rw [Try.ntmps69, Try.results69]
    simp -dsimp -implicitDefEqProofs only [go_sem, seval]
    refine AtFn.pure0 hm ?_
    simp -dsimp -implicitDefEqProofs only [go_sem, seval, List.length_map]
theorem int87 (n : Int) (h1 : -9223372036854775808 ≤ n) (h2 : n ≤ 9223372036854775807) : PFun Try.prog 87 [I n] (.g [Bo (decide (n < 0)), NatA (dig (n.natAbs : Int)), nilS]) := by
  have ho := of91 (n.natAbs : Int) (by omega) (by omega)
  have key : ∀ x : Int, IntKind.u64.wrap x = x % 18446744073709551616 := by
    intro x
    simp [IntKind.wrap]
    first | rfl | (simp [IntKind.signed, IntKind.bits])
  by_cases hn : n < 0
  · have w1 : IntKind.u64.wrap (0 - IntKind.u64.wrap n) = (n.natAbs : Int) := by rw [key, key]; omega
    simp only [decide_eq_true hn]
    refine PFun.intro 400 mixed Try.func87 (by kernel_rfl) rfl ((by simp only [Cl_g, List.mem_cons, List.not_mem_nil, or_false, forall_eq_or_imp, forall_eq, Cl_v, clNat, and_self])) (Nat.le_of_ble_eq_true rfl) ?_; rw [Try.ntmps87, Try.results87]
    simp -dsimp -implicitDefEqProofs only [go_sem, seval, hn, w1]
    refine AtFn.pure0 ho ?_
    simp -dsimp -implicitDefEqProofs only [go_sem, seval]
  · have w1 : IntKind.u64.wrap n = (n.natAbs : Int) := by rw [key]; omega
    simp only [decide_eq_false hn]
    refine PFun.intro 400 mixed Try.func87 (by kernel_rfl) rfl ((by simp only [Cl_g, List.mem_cons, List.not_mem_nil, or_false, forall_eq_or_imp, forall_eq, Cl_v, clNat, and_self])) (Nat.le_of_ble_eq_true rfl) ?_; rw [Try.ntmps87, Try.results87]
    simp -dsimp -implicitDefEqProofs only [go_sem, seval, hn, w1]
    refine AtFn.pure0 ho ?_
    simp -dsimp -implicitDefEqProofs only [go_sem, seval]
theorem whole74 (n : Int) (h1 : -9223372036854775808 ≤ n) (h2 : n ≤ 9223372036854775807) : PFun Try.prog 74 [I n] (BigA n) := by
  refine PFun.intro 400 mixed Try.func74 (by kernel_rfl) rfl (clBig n) (Nat.le_of_ble_eq_true rfl) ?_; rw [Try.ntmps74, Try.results74]
  simp -dsimp -implicitDefEqProofs only [go_sem, seval]
  refine AtFn.pure0 (int87 n h1 h2) ?_
  simp -dsimp -implicitDefEqProofs only [go_sem, seval]

theorem sub_g0 : Sub (.g [Bo false, nilS]) (BigA 0) := by
  intro X β w u h
  cases h with
  | g hl hR =>
    refine .g hl fun k s u hk hu => ?_
    match k with
    | 0 => simp at hk; subst hk; exact hR 0 _ u rfl hu
    | 1 =>
      simp only [BigC, List.getElem?_cons_succ, List.getElem?_cons_zero, Option.some.injEq] at hk
      subst hk
      have := hR 1 _ u rfl hu
      exact Sub.nil 1 _ _ _ _ this
    | k + 2 => simp at hk
set_option maxHeartbeats 2000000 in
theorem plus70 (z w : Int) (hz : szB z) (hw : szB w) : PFun Try.prog 70 [BigA z, BigA w] (BigA (z + w)) := by
  unfold szB at hz hw
  have oz := dig_ok (z.natAbs : Int)
  have ow := dig_ok (w.natAbs : Int)
  have vz := dig_val (n := (z.natAbs : Int)) (by omega)
  have vw := dig_val (n := (w.natAbs : Int)) (by omega)
  by_cases hs : decide (z < 0) = decide (w < 0)
  · have ha := add83 (dig (z.natAbs : Int)) (dig (w.natAbs : Int)) oz ow (by omega) (by omega)
    rw [vz, vw] at ha
    have e : BigA (z + w) = .g [Bo (decide (z < 0)), NatA (dig ((z.natAbs : Int) + (w.natAbs : Int)))] := by
      have hsb : z < 0 ↔ w < 0 := by simpa using hs
      have e1 : ((z + w).natAbs : Int) = (z.natAbs : Int) + (w.natAbs : Int) := by omega
      have e2 : decide (z + w < 0) = decide (z < 0) := by rw [Bool.eq_iff_iff]; simp only [decide_eq_true_eq]; omega
      unfold BigA BigC
      rw [e1, e2]
    rw [e]
    unfold BigA BigC
    rw [← hs]
    refine PFun.intro 400 mixed Try.func70 (by kernel_rfl) rfl (clG _ _) (Nat.le_of_ble_eq_true rfl) ?_; rw [Try.ntmps70, Try.results70]
    simp -dsimp -implicitDefEqProofs only [go_sem, seval]
    refine AtCode.draw 8 [([], []), ([0], []), ([], []), ([2], []), ([], []), ([4], []), ([2, 3, 4, 5], []), ([0, 1, 2, 3, 4, 5, 6], []), ([0, 1, 2, 3, 4, 5, 6, 7], [])] (by kernel_rfl) ?_
    simp -dsimp -implicitDefEqProofs only [go_sem, seval]
    refine QFn.use _ ha (by simp -dsimp -implicitDefEqProofs only [go_sem, seval]) ?_
    simp -dsimp -implicitDefEqProofs only [go_sem, seval]
  · have hsb : ¬ (z < 0 ↔ w < 0) := by simpa using hs
    have hc := cmp84 (z.natAbs : Int) (w.natAbs : Int) (by omega) (by omega) (by omega) (by omega)
    obtain ⟨c1, c2, c3⟩ := cmp_lt (n := (z.natAbs : Int)) (m := (w.natAbs : Int)) (by omega) (by omega)
    obtain ⟨q, hq⟩ : ∃ q, q = cmpW (z.natAbs : Int) (w.natAbs : Int) := ⟨_, rfl⟩
    rw [← hq] at hc c1 c2 c3
    by_cases q0 : q = 0
    · have e : z + w = 0 := by have := c2.1 q0; omega
      rw [e]
      refine PFun.res ?_ sub_g0
      unfold BigA BigC
      obtain ⟨sz, hsz⟩ : ∃ sz, sz = decide (z < 0) := ⟨_, rfl⟩
      obtain ⟨sw, hsw⟩ : ∃ sw, sw = decide (w < 0) := ⟨_, rfl⟩
      rw [← hsz, ← hsw] at hs ⊢
      cases sz <;> cases sw
      · exact absurd rfl hs
      · refine PFun.intro 400 mixed Try.func70 (by kernel_rfl) rfl ((by simp [Cl_g, Cl_v])) (Nat.le_of_ble_eq_true rfl) ?_; rw [Try.ntmps70, Try.results70]
        simp -dsimp -implicitDefEqProofs only [go_sem, seval]
        refine AtFn.pure0 hc ?_
        simp -dsimp -implicitDefEqProofs only [go_sem, seval, q0]
      · refine PFun.intro 400 mixed Try.func70 (by kernel_rfl) rfl ((by simp [Cl_g, Cl_v])) (Nat.le_of_ble_eq_true rfl) ?_; rw [Try.ntmps70, Try.results70]
        simp -dsimp -implicitDefEqProofs only [go_sem, seval]
        refine AtFn.pure0 hc ?_
        simp -dsimp -implicitDefEqProofs only [go_sem, seval, q0]
      · exact absurd rfl hs
    · by_cases q1 : 0 < q
      · have hlt := c3.1 q1
        have hsu := sub85 (dig (z.natAbs : Int)) (dig (w.natAbs : Int)) oz ow (by omega) (dig_len_mono (by omega) (by omega)) (by rw [vz, vw]; omega)
        rw [vz, vw] at hsu
        have e : BigA (z + w) = .g [Bo (decide (z < 0)), NatA (dig ((z.natAbs : Int) - (w.natAbs : Int)))] := by
          have e1 : ((z + w).natAbs : Int) = (z.natAbs : Int) - (w.natAbs : Int) := by omega
          have e2 : decide (z + w < 0) = decide (z < 0) := by rw [Bool.eq_iff_iff]; simp only [decide_eq_true_eq]; omega
          unfold BigA BigC
          rw [e1, e2]
        rw [e]
        unfold BigA BigC
        obtain ⟨sz, hsz⟩ : ∃ sz, sz = decide (z < 0) := ⟨_, rfl⟩
        obtain ⟨sw, hsw⟩ : ∃ sw, sw = decide (w < 0) := ⟨_, rfl⟩
        rw [← hsz, ← hsw] at hs ⊢
        cases sz <;> cases sw
        · exact absurd rfl hs
        · refine PFun.intro 400 mixed Try.func70 (by kernel_rfl) rfl (clG _ _) (Nat.le_of_ble_eq_true rfl) ?_; rw [Try.ntmps70, Try.results70]
          simp -dsimp -implicitDefEqProofs only [go_sem, seval]
          refine AtFn.pure0 hc ?_
          simp -dsimp -implicitDefEqProofs only [go_sem, seval, q0, q1, true_implies]
          refine AtCode.draw 8 [([], []), ([0], []), ([], []), ([2], []), ([], []), ([4], []), ([2, 3, 4, 5], []), ([0, 1, 2, 3, 4, 5, 6], []), ([0, 1, 2, 3, 4, 5, 6, 7], [])] (by kernel_rfl) ?_
          simp -dsimp -implicitDefEqProofs only [go_sem, seval]
          refine QFn.use _ hsu (by simp -dsimp -implicitDefEqProofs only [go_sem, seval]) ?_
          simp -dsimp -implicitDefEqProofs only [go_sem, seval]
        · refine PFun.intro 400 mixed Try.func70 (by kernel_rfl) rfl (clG _ _) (Nat.le_of_ble_eq_true rfl) ?_; rw [Try.ntmps70, Try.results70]
          simp -dsimp -implicitDefEqProofs only [go_sem, seval]
          refine AtFn.pure0 hc ?_
          simp -dsimp -implicitDefEqProofs only [go_sem, seval, q0, q1, true_implies]
          refine AtCode.draw 8 [([], []), ([0], []), ([], []), ([2], []), ([], []), ([4], []), ([2, 3, 4, 5], []), ([0, 1, 2, 3, 4, 5, 6], []), ([0, 1, 2, 3, 4, 5, 6, 7], [])] (by kernel_rfl) ?_
          simp -dsimp -implicitDefEqProofs only [go_sem, seval]
          refine QFn.use _ hsu (by simp -dsimp -implicitDefEqProofs only [go_sem, seval]) ?_
          simp -dsimp -implicitDefEqProofs only [go_sem, seval]
        · exact absurd rfl hs
      · have hlt := c1.1 (by omega)
        have hsu := sub85 (dig (w.natAbs : Int)) (dig (z.natAbs : Int)) ow oz (by omega) (dig_len_mono (by omega) (by omega)) (by rw [vz, vw]; omega)
        rw [vz, vw] at hsu
        have e : BigA (z + w) = .g [Bo (decide (w < 0)), NatA (dig ((w.natAbs : Int) - (z.natAbs : Int)))] := by
          have e1 : ((z + w).natAbs : Int) = (w.natAbs : Int) - (z.natAbs : Int) := by omega
          have e2 : decide (z + w < 0) = decide (w < 0) := by rw [Bool.eq_iff_iff]; simp only [decide_eq_true_eq]; omega
          unfold BigA BigC
          rw [e1, e2]
        rw [e]
        unfold BigA BigC
        obtain ⟨sz, hsz⟩ : ∃ sz, sz = decide (z < 0) := ⟨_, rfl⟩
        obtain ⟨sw, hsw⟩ : ∃ sw, sw = decide (w < 0) := ⟨_, rfl⟩
        rw [← hsz, ← hsw] at hs ⊢
        cases sz <;> cases sw
        · exact absurd rfl hs
        · refine PFun.intro 400 mixed Try.func70 (by kernel_rfl) rfl (clG _ _) (Nat.le_of_ble_eq_true rfl) ?_; rw [Try.ntmps70, Try.results70]
          simp -dsimp -implicitDefEqProofs only [go_sem, seval]
          refine AtFn.pure0 hc ?_
          simp -dsimp -implicitDefEqProofs only [go_sem, seval, q0, q1, true_implies]
          refine AtCode.draw 8 [([], []), ([0], []), ([], []), ([2], []), ([], []), ([4], []), ([2, 3, 4, 5], []), ([0, 1, 2, 3, 4, 5, 6], []), ([0, 1, 2, 3, 4, 5, 6, 7], [])] (by kernel_rfl) ?_
          simp -dsimp -implicitDefEqProofs only [go_sem, seval]
          refine QFn.use _ hsu (by simp -dsimp -implicitDefEqProofs only [go_sem, seval]) ?_
          simp -dsimp -implicitDefEqProofs only [go_sem, seval]
        · refine PFun.intro 400 mixed Try.func70 (by kernel_rfl) rfl (clG _ _) (Nat.le_of_ble_eq_true rfl) ?_; rw [Try.ntmps70, Try.results70]
          simp -dsimp -implicitDefEqProofs only [go_sem, seval]
          refine AtFn.pure0 hc ?_
          simp -dsimp -implicitDefEqProofs only [go_sem, seval, q0, q1, true_implies]
          refine AtCode.draw 8 [([], []), ([0], []), ([], []), ([2], []), ([], []), ([4], []), ([2, 3, 4, 5], []), ([0, 1, 2, 3, 4, 5, 6], []), ([0, 1, 2, 3, 4, 5, 6, 7], [])] (by kernel_rfl) ?_
          simp -dsimp -implicitDefEqProofs only [go_sem, seval]
          refine QFn.use _ hsu (by simp -dsimp -implicitDefEqProofs only [go_sem, seval]) ?_
          simp -dsimp -implicitDefEqProofs only [go_sem, seval]
        · exact absurd rfl hs
theorem minus67 (z w : Int) (hz : szB z) (hw : szB w) : PFun Try.prog 67 [BigA z, BigA w] (BigA (z - w)) := by
  have hn := neg80 w
  have hw' : szB (-w) := by unfold szB at *; rw [show (((-w).natAbs : Nat) : Int) = (w.natAbs : Int) by omega]; exact hw
  have hp := plus70 z (-w) hz hw'
  rw [← Int.sub_eq_add_neg] at hp
  refine PFun.intro 400 mixed Try.func67 (by kernel_rfl) rfl (clBig _) (Nat.le_of_ble_eq_true rfl) ?_; rw [Try.ntmps67, Try.results67]
  simp -dsimp -implicitDefEqProofs only [go_sem, seval]
  refine AtCode.draw 4 [([], []), ([], []), ([1], []), ([0, 1, 2], []), ([0, 1, 2, 3], [])] (by kernel_rfl) ?_
  simp -dsimp -implicitDefEqProofs only [go_sem, seval]
  refine QFn.use _ hn (by simp -dsimp -implicitDefEqProofs only [go_sem, seval]) ?_
  simp -dsimp -implicitDefEqProofs only [go_sem, seval]
  refine QFn.use _ hp (by simp -dsimp -implicitDefEqProofs only [go_sem, seval]) ?_
  simp -dsimp -implicitDefEqProofs only [go_sem, seval]
end

section
set_option maxRecDepth 20000
attribute [local go_sem] clU32 clNat clBigT clBigC
def LefO (A : List Int) (s : Nat) (i : Nat) (O : List Int) : Prop := O.length = A.length + 1 ∧ okD O ∧ valN O = valN (A.take i) * 2 ^ s ∧ O.getD i 0 < 2 ^ s ∧ ∀ k, i < k → O.getD k 0 = 0
theorem getD_rep (n k : Nat) : (List.replicate n (0 : Int)).getD k 0 = 0 := by
  by_cases hk : k < n
  · simp [List.getD, hk]
  · exact getD_out (by rw [List.length_replicate]; omega)
theorem spl_mod (a : Int) {s : Nat} (hs : s ≤ 31) : a * 2 ^ s % 4294967296 = 2 ^ s * (a % 2 ^ (32 - s)) ∧ 2 ^ s * 2 ^ (32 - s) = (4294967296 : Int) := by
  have e : (2 : Int) ^ s * 2 ^ (32 - s) = 4294967296 := by
    rw [← Int.pow_add, show s + (32 - s) = 32 by omega]; decide
  refine ⟨?_, e⟩
  rw [Int.mul_comm a, ← e, Int.mul_emod_mul_of_pos _ _ (pow_pos2 s)]
theorem mod_le (a : Int) {s : Nat} (hs : s ≤ 31) : 0 ≤ a * 2 ^ s % 4294967296 ∧ a * 2 ^ s % 4294967296 + 2 ^ s ≤ 4294967296 := by
  obtain ⟨e1, e2⟩ := spl_mod a hs
  refine ⟨Int.emod_nonneg _ (by decide), ?_⟩
  have hp := pow_pos2 (32 - s)
  have h1 := Int.emod_lt_of_pos a hp
  have h2 : (2 : Int) ^ s * (a % 2 ^ (32 - s) + 1) ≤ 2 ^ s * 2 ^ (32 - s) := Int.mul_le_mul_of_nonneg_left (by omega) (Int.le_of_lt (pow_pos2 s))
  rw [Int.mul_add, Int.mul_one, e2, ← e1] at h2
  exact h2
theorem or_add {a b : Int} {s : Nat} (hs : s ≤ 31) (ha : 0 ≤ a) (hb : 0 ≤ b) (h : b < 2 ^ s) :
    ((BitVec.ofInt IntKind.u32.bits b ||| BitVec.ofInt IntKind.u32.bits (a * 2 ^ s % 4294967296)).toNat : Int) % 4294967296 = b + a * 2 ^ s % 4294967296 := by
  obtain ⟨e1, e2⟩ := spl_mod a hs
  have hm := mod_le a hs
  have hps : (2 : Int) ^ s ≤ 2147483648 := pow_mono2 (show s ≤ 31 by omega)
  have hc : 0 ≤ a % 2 ^ (32 - s) := Int.emod_nonneg _ (by have := pow_pos2 (32 - s); omega)
  obtain ⟨c, hc⟩ := Int.eq_ofNat_of_zero_le hc
  obtain ⟨n, rfl⟩ := Int.eq_ofNat_of_zero_le hb
  rw [e1, hc] at hm ⊢
  have k1 : ((2 : Int) ^ s * (c : Nat)) = ((2 ^ s * c : Nat) : Int) := by push_cast; rfl
  have hn : n < 2 ^ s := by have : ((n : Nat) : Int) < ((2 ^ s : Nat) : Int) := by push_cast; exact h
                            exact_mod_cast this
  rw [k1] at hm ⊢
  rw [BitVec.toNat_or, BitVec.toNat_ofInt, BitVec.toNat_ofInt]
  have kb : ((2 ^ IntKind.u32.bits : Nat) : Int) = 4294967296 := by decide
  have n1 : ((n : Nat) : Int) % 4294967296 = (n : Nat) := Int.emod_eq_of_lt (by omega) (by omega)
  have n2 : ((2 ^ s * c : Nat) : Int) % 4294967296 = (2 ^ s * c : Nat) := Int.emod_eq_of_lt (by omega) (by omega)
  rw [kb, n1, n2, Int.toNat_natCast, Int.toNat_natCast, Nat.or_comm, ← Nat.two_pow_add_eq_or_of_lt hn]
  omega
theorem lef_step {A O : List Int} {s i : Nat} (hs : s < 32) (hA : okD A) (h : LefO A s i O) (hi : i < A.length) :
    LefO A s (i + 1) ((O.set i (O.getD i 0 + A.getD i 0 * 2 ^ s % 4294967296)).set (i + 1) (A.getD i 0 * 2 ^ s / 4294967296)) := by
  obtain ⟨h1, h2, h3, h4, h5⟩ := h
  have da := okD_get hA i
  have dO := okD_get h2 i
  have hm := mod_le (A.getD i 0) (s := s) (by omega)
  have hp := pow_pos2 s
  have hps : (2 : Int) ^ s ≤ 2147483648 := pow_mono2 (show s ≤ 31 by omega)
  have hm0 : 0 ≤ A.getD i 0 * 2 ^ s := Int.mul_nonneg da.1 (by omega)
  have hm1 : A.getD i 0 * 2 ^ s < 4294967296 * 2 ^ s := Int.mul_lt_mul_of_pos_right da.2 hp
  have hy : A.getD i 0 * 2 ^ s / 4294967296 < 2 ^ s := Int.ediv_lt_of_lt_mul (by decide) (by first | exact hm1 | (rw [Int.mul_comm (2 ^ s)]; exact hm1))
  have hy0 : 0 ≤ A.getD i 0 * 2 ^ s / 4294967296 := Int.ediv_nonneg hm0 (by decide)
  have hx : okD (O.set i (O.getD i 0 + A.getD i 0 * 2 ^ s % 4294967296)) := okD_set h2 i ⟨by omega, by omega⟩
  have l1 : i + 1 < (O.set i (O.getD i 0 + A.getD i 0 * 2 ^ s % 4294967296)).length := by rw [List.length_set]; omega
  refine ⟨by rw [List.length_set, List.length_set, h1], okD_set hx _ ⟨hy0, by omega⟩, ?_, ?_, ?_⟩
  · rw [val_set _ l1, val_set _ (by omega), getD_setI (by omega), if_neg (by omega), h5 (i + 1) (by omega), h3, val_take, pow_s]
    have hd := Int.emod_add_mul_ediv (A.getD i 0 * 2 ^ s) 4294967296
    generalize hP : (4294967296 : Int) ^ i = P
    generalize hM : A.getD i 0 * 2 ^ s = M at *
    rw [show O.getD i 0 + M % 4294967296 - O.getD i 0 = M % 4294967296 by omega, Int.sub_zero, Int.add_mul, Int.mul_assoc P, hM, Int.mul_comm 4294967296 P, Int.mul_assoc P, Int.add_assoc, ← Int.mul_add, hd]
  · rw [getD_setI l1, if_pos rfl]; exact hy
  · intro k hk
    by_cases hkl : k < O.length
    · rw [getD_setI (by rw [List.length_set]; exact hkl), if_neg (by omega), getD_setI hkl, if_neg (by omega)]
      exact h5 k (by omega)
    · exact getD_out (by rw [List.length_set, List.length_set]; omega)
set_option maxHeartbeats 4000000 in
theorem left94 (A : List Int) (s : Nat) (hs : s < 32) (hA : okD A) (hAl : A.length < 1073741824) : PFun Try.prog 94 [NatA A, .v (.int .u64 s)] (NatA (dig (valN A * 2 ^ s))) := by
  have hn0 : ((A.length + 1 : Nat) : Int) ≤ 274877906944 := by omega
  have w0 : wr (((A.length : Nat) : Int) + 1) = ((A.length + 1 : Nat) : Int) := by rw [wr_in] <;> omega
  refine PFun.intro 400 mixed Try.func94 (by kernel_rfl) rfl ((clNat _).2 trivial) (Nat.le_of_ble_eq_true rfl) ?_; rw [Try.ntmps94, Try.results94]
  simp -dsimp -implicitDefEqProofs only [go_sem, seval, List.length_map, w0, Int.natCast_nonneg, Int.le_refl, hn0, Int.toNat_natCast]
  refine ⟨{p : Nat × List Int // p.1 ≤ A.length ∧ LefO A s p.1 p.2}, fun p => ⟨41, tl [(1, .v (.int .u64 s)), (5, .sl 0 0 (A.length + 1)), (12, NatA A), (13, I (A.length : Nat)), (14, I p.1.1)], [(0, ⟨1, p.1.2.map U32C⟩)], 1, .nil⟩, fun p => A.length - p.1.1,
    ⟨⟨(0, List.replicate (A.length + 1) 0), by omega, by simp, okD_rep _, by rw [val_rep]; simp [valN], by rw [getD_rep]; have := pow_pos2 s; omega, fun k _ => getD_rep _ _⟩, Le.tl (Ls := []) (y := none) [] (by simp -dsimp -implicitDefEqProofs only [go_sem, seval]) ?_ (by simp) (by simp [sg]) trivial⟩, fun p => ?_⟩
  · simp -dsimp -implicitDefEqProofs only [go_sem, seval]
    exact renL_cl2 (by rw [List.map_replicate]) ((clU32 _).2 trivial)
  obtain ⟨⟨i, O⟩, hi, hO⟩ := p
  simp only at hi hO
  simp -dsimp -implicitDefEqProofs only [go_sem, seval]
  refine ⟨fun h => ?_, fun h => ?_⟩
  · have hlt : i < A.length := by omega
    have e3 : wr ((i : Int) + 1) = ((i + 1 : Nat) : Int) := by rw [wr_in] <;> omega
    have gA := getU (D := A) (i := i) hlt
    have gO := getU (D := O) (i := i) (by rw [hO.1]; omega)
    have c1 : ((i : Nat) : Int) < ((A.length + 1 : Nat) : Int) := by omega
    have da := okD_get hA i
    obtain ⟨h1, h2, h3, h4, h5⟩ := hO
    have dO := okD_get h2 i
    have m1 : min s 32 = s := by omega
    have m2 : min s 64 = s := by omega
    have hp := pow_pos2 s
    have hps : (2 : Int) ^ s ≤ 2147483648 := pow_mono2 (show s ≤ 31 by omega)
    have hmb := mul_bd (a := A.getD i 0) (A := 4294967295) (b := 2 ^ s) (B := 2147483648) (by omega) (by omega) (by omega) hps
    have hm0 : 0 ≤ A.getD i 0 * 2 ^ s := Int.mul_nonneg da.1 (by omega)
    have x1 : IntKind.u64.wrap (A.getD i 0) = A.getD i 0 := wu (by omega) (by omega)
    have x2 : IntKind.u64.wrap (A.getD i 0 * 2 ^ s) = A.getD i 0 * 2 ^ s := wu hm0 (by omega)
    have s1 : (A.getD i 0 * 2 ^ s).fdiv (2 ^ min 32 64) = A.getD i 0 * 2 ^ s / 4294967296 := by rw [show ((2 : Int) ^ min 32 64) = 4294967296 by decide, Int.fdiv_eq_ediv_of_nonneg _ (by decide)]
    have x3 : A.getD i 0 * 2 ^ s / 4294967296 % 4294967296 = A.getD i 0 * 2 ^ s / 4294967296 := by omega
    have hor := or_add (a := A.getD i 0) (s := s) (b := O.getD i 0) (by omega) da.1 dO.1 h4
    have c2 : ((i + 1 : Nat) : Int) < ((A.length + 1 : Nat) : Int) := by omega
    have gO2 := getU (D := O.set i (O.getD i 0 + A.getD i 0 * 2 ^ s % 4294967296)) (i := i + 1) (by rw [List.length_set, h1]; omega)
    have hst := lef_step hs hA ⟨h1, h2, h3, h4, h5⟩ hlt
    simp -dsimp -implicitDefEqProofs only [go_sem, seval, List.length_map, Int.natCast_nonneg, Int.toNat_natCast, gA, c1, Nat.zero_add, gO, m1, m2, e3, x1, x2, s1, wu32m, x3, hor, setU, c2, gO2]
    refine ⟨⟨(i + 1, _), by show i + 1 ≤ A.length; omega, hst⟩, by show A.length - (i + 1) < A.length - i; omega, Le.tl (Ls := []) (y := none) [] (by simp -dsimp -implicitDefEqProofs only [go_sem, seval, e3]) ?_ (by simp) (by simp [sg]) trivial⟩
    simp -dsimp -implicitDefEqProofs only [go_sem, seval]
    exact renL_cl rfl ((clU32 _).2 trivial)
  · have hin : i = A.length := by omega
    subst hin
    obtain ⟨h1, h2, h3, _⟩ := hO
    rw [List.take_of_length_le (Nat.le_refl _)] at h3
    have ht := nat90 O (by omega) h2
    rw [h3] at ht
    refine AtFn.pure ht ?_
    simp -dsimp -implicitDefEqProofs only [go_sem, seval, List.length_map, takeU, Nat.le_refl, Nat.zero_add, h1]

def lb (n : Int) : Int := if n ≤ 0 then 0 else (Nat.log2 n.toNat : Nat) + 1
def chkT (T : ByteArray) : Bool := (List.range 256).all fun n => match T[n]? with | some b => (b.toNat : Int) == lb n | none => false
theorem optK_tab {T : ByteArray} (h : chkT T = true) {n : Nat} (hn : n < 256) {K : UInt8 → Prop} [Tg K] (hk : ∀ b : UInt8, (b.toNat : Int) = lb n → K b) : optK (T[n]?) K := by
  unfold chkT at h
  rw [List.all_eq_true] at h
  have := h n (List.mem_range.2 hn)
  cases hT : T[n]? with
  | none => rw [hT] at this; simp at this
  | some b =>
    rw [hT] at this
    simp only [beq_iff_eq] at this
    exact hk b this
def bl (x : Int) : Int := if 65536 ≤ x then (if 256 ≤ x / 65536 then 24 + lb (x / 65536 / 256) else 16 + lb (x / 65536)) else if 256 ≤ x then 8 + lb (x / 256) else lb x
theorem lb_b {n : Int} (h1 : 1 ≤ n) (h2 : n < 256) : 1 ≤ lb n ∧ lb n ≤ 8 := by
  have key : ∀ k, k < 256 → 1 ≤ k → 1 ≤ lb ((k : Nat) : Int) ∧ lb ((k : Nat) : Int) ≤ 8 := by decide +kernel
  have := key n.toNat (by omega) (by omega)
  rwa [Int.toNat_of_nonneg (by omega)] at this
theorem bl_b {x : Int} (h1 : 1 ≤ x) (h2 : x < 4294967296) : 1 ≤ bl x ∧ bl x ≤ 32 := by
  unfold bl
  split
  · split
    · have := lb_b (n := x / 65536 / 256) (by omega) (by omega); omega
    · have := lb_b (n := x / 65536) (by omega) (by omega); omega
  · split
    · have := lb_b (n := x / 256) (by omega) (by omega); omega
    · have := lb_b (n := x) (by omega) (by omega); omega
theorem wu8 {x : Int} (h1 : 0 ≤ x) (h2 : x < 256) : IntKind.u8.wrap x = x := by
  simp [IntKind.wrap]
  first | omega | (simp [IntKind.signed, IntKind.bits] <;> omega)
theorem len97 (x : Int) (h1 : 1 ≤ x) (h2 : x < 4294967296) : PFun Try.prog 97 [.v (.int .u32 x)] (I (bl x)) := by
  have s16 : x.fdiv (2 ^ min 16 32) = x / 65536 := by rw [show ((2 : Int) ^ min 16 32) = 65536 by decide, Int.fdiv_eq_ediv_of_nonneg _ (by decide)]
  have s8 : x.fdiv (2 ^ min 8 32) = x / 256 := by rw [show ((2 : Int) ^ min 8 32) = 256 by decide, Int.fdiv_eq_ediv_of_nonneg _ (by decide)]
  have s24 : (x / 65536).fdiv (2 ^ min 8 32) = x / 65536 / 256 := by rw [show ((2 : Int) ^ min 8 32) = 256 by decide, Int.fdiv_eq_ediv_of_nonneg _ (by decide)]
  have z8 : wr (0 + 8) = 8 := by decide
  have z16 : wr (16 + 8) = 24 := by decide
  unfold bl
  by_cases c1 : 65536 ≤ x
  · by_cases c2 : 256 ≤ x / 65536
    · rw [if_pos c1, if_pos c2]
      have b1 : IntKind.u8.wrap (x / 65536 / 256) = x / 65536 / 256 := wu8 (by omega) (by omega)
      have b2 := lb_b (n := x / 65536 / 256) (by omega) (by omega)
      refine PFun.intro 400 mixed Try.func97 (by kernel_rfl) rfl (by first | exact .v _ | (simp [Cl_v, Cl_t, Cl_g, Cl_fn, Cl_rp, Cl_ro]; done) | (simp [Cl_v, Cl_t, Cl_g, Cl_fn, Cl_rp, Cl_ro, or_imp, forall_and]; done) | (split <;> simp [Cl_v, Cl_t, Cl_g, Cl_fn, Cl_rp, Cl_ro])) (Nat.le_of_ble_eq_true rfl) ?_; rw [Try.ntmps97, Try.results97]
      simp -dsimp -implicitDefEqProofs (maxSteps := 1000000) only [go_sem, ↓reduceIte, Nat.reduceAdd, Nat.reduceSub, Nat.reduceMul, Nat.reduceLT, Nat.reduceLeDiff, Nat.reduceEqDiff, Nat.reduceBEq, Nat.reduceBNe, Int.reduceToNat, Int.reduceLT, Int.reduceLE, Int.reduceNeg, reduceCtorEq, Int.reduceEq, Int.reduceNe, c1, c2, s16, s24, z16, b1]
      refine ⟨by omega, optK_tab (by kernel_rfl) (by omega) fun b hb => ?_⟩
      rw [Int.toNat_of_nonneg (by omega)] at hb
      simp -dsimp -implicitDefEqProofs (maxSteps := 1000000) only [go_sem, ↓reduceIte, Nat.reduceAdd, Nat.reduceSub, Nat.reduceMul, Nat.reduceLT, Nat.reduceLeDiff, Nat.reduceEqDiff, Nat.reduceBEq, Nat.reduceBNe, Int.reduceToNat, Int.reduceLT, Int.reduceLE, Int.reduceNeg, reduceCtorEq, Int.reduceEq, Int.reduceNe, hb]
      have w2 : wr (lb (x / 65536 / 256)) = lb (x / 65536 / 256) := wr_in (by omega) (by omega)
      have w3 : wr (24 + lb (x / 65536 / 256)) = 24 + lb (x / 65536 / 256) := wr_in (by omega) (by omega)
      rw [w2, w3]
    · rw [if_pos c1, if_neg c2]
      have b1 : IntKind.u8.wrap (x / 65536) = x / 65536 := wu8 (by omega) (by omega)
      have b2 := lb_b (n := x / 65536) (by omega) (by omega)
      refine PFun.intro 400 mixed Try.func97 (by kernel_rfl) rfl (by first | exact .v _ | (simp [Cl_v, Cl_t, Cl_g, Cl_fn, Cl_rp, Cl_ro]; done) | (simp [Cl_v, Cl_t, Cl_g, Cl_fn, Cl_rp, Cl_ro, or_imp, forall_and]; done) | (split <;> simp [Cl_v, Cl_t, Cl_g, Cl_fn, Cl_rp, Cl_ro])) (Nat.le_of_ble_eq_true rfl) ?_; rw [Try.ntmps97, Try.results97]
      simp -dsimp -implicitDefEqProofs only [go_sem, seval, c1, c2, s16, b1]
      refine ⟨by omega, optK_tab (by kernel_rfl) (by omega) fun b hb => ?_⟩
      rw [Int.toNat_of_nonneg (by omega)] at hb
      simp -dsimp -implicitDefEqProofs only [go_sem, seval, hb]
      have w2 : wr (lb (x / 65536)) = lb (x / 65536) := wr_in (by omega) (by omega)
      have w3 : wr (16 + lb (x / 65536)) = 16 + lb (x / 65536) := wr_in (by omega) (by omega)
      rw [w2, w3]
  · rw [if_neg c1]
    by_cases c2 : 256 ≤ x
    · rw [if_pos c2]
      have b1 : IntKind.u8.wrap (x / 256) = x / 256 := wu8 (by omega) (by omega)
      have b2 := lb_b (n := x / 256) (by omega) (by omega)
      refine PFun.intro 400 mixed Try.func97 (by kernel_rfl) rfl (by first | exact .v _ | (simp [Cl_v, Cl_t, Cl_g, Cl_fn, Cl_rp, Cl_ro]; done) | (simp [Cl_v, Cl_t, Cl_g, Cl_fn, Cl_rp, Cl_ro, or_imp, forall_and]; done) | (split <;> simp [Cl_v, Cl_t, Cl_g, Cl_fn, Cl_rp, Cl_ro])) (Nat.le_of_ble_eq_true rfl) ?_; rw [Try.ntmps97, Try.results97]
      simp -dsimp -implicitDefEqProofs (maxSteps := 1000000) only [go_sem, ↓reduceIte, Nat.reduceAdd, Nat.reduceSub, Nat.reduceMul, Nat.reduceLT, Nat.reduceLeDiff, Nat.reduceEqDiff, Nat.reduceBEq, Nat.reduceBNe, Int.reduceToNat, Int.reduceLT, Int.reduceLE, Int.reduceNeg, reduceCtorEq, Int.reduceEq, Int.reduceNe, c1, c2, s8, z8, b1]
      refine ⟨by omega, optK_tab (by kernel_rfl) (by omega) fun b hb => ?_⟩
      rw [Int.toNat_of_nonneg (by omega)] at hb
      simp -dsimp -implicitDefEqProofs (maxSteps := 1000000) only [go_sem, ↓reduceIte, Nat.reduceAdd, Nat.reduceSub, Nat.reduceMul, Nat.reduceLT, Nat.reduceLeDiff, Nat.reduceEqDiff, Nat.reduceBEq, Nat.reduceBNe, Int.reduceToNat, Int.reduceLT, Int.reduceLE, Int.reduceNeg, reduceCtorEq, Int.reduceEq, Int.reduceNe, hb]
      have w2 : wr (lb (x / 256)) = lb (x / 256) := wr_in (by omega) (by omega)
      have w3 : wr (8 + lb (x / 256)) = 8 + lb (x / 256) := wr_in (by omega) (by omega)
      rw [w2, w3]
    · rw [if_neg c2]
      have b1 : IntKind.u8.wrap x = x := wu8 (by omega) (by omega)
      have b2 := lb_b (n := x) (by omega) (by omega)
      refine PFun.intro 400 mixed Try.func97 (by kernel_rfl) rfl (by first | exact .v _ | (simp [Cl_v, Cl_t, Cl_g, Cl_fn, Cl_rp, Cl_ro]; done) | (simp [Cl_v, Cl_t, Cl_g, Cl_fn, Cl_rp, Cl_ro, or_imp, forall_and]; done) | (split <;> simp [Cl_v, Cl_t, Cl_g, Cl_fn, Cl_rp, Cl_ro])) (Nat.le_of_ble_eq_true rfl) ?_; rw [Try.ntmps97, Try.results97]
      simp -dsimp -implicitDefEqProofs only [go_sem, seval, c1, c2, b1]
      refine ⟨by omega, optK_tab (by kernel_rfl) (by omega) fun b hb => ?_⟩
      rw [Int.toNat_of_nonneg (by omega)] at hb
      simp -dsimp -implicitDefEqProofs only [go_sem, seval, hb]
      have w2 : wr (lb x) = lb x := wr_in (by omega) (by omega)
      rw [w2, Int.zero_add, w2]
theorem zeros92 (x : Int) (h1 : 1 ≤ x) (h2 : x < 4294967296) : PFun Try.prog 92 [.v (.int .u32 x)] (I (32 - bl x)) := by
  have hb := bl_b h1 h2
  have w : wr (32 - bl x) = 32 - bl x := wr_in (by omega) (by omega)
  refine PFun.intro 400 mixed Try.func92 (by kernel_rfl) rfl (by first | exact .v _ | (simp [Cl_v, Cl_t, Cl_g, Cl_fn, Cl_rp, Cl_ro]; done) | (simp [Cl_v, Cl_t, Cl_g, Cl_fn, Cl_rp, Cl_ro, or_imp, forall_and]; done) | (split <;> simp [Cl_v, Cl_t, Cl_g, Cl_fn, Cl_rp, Cl_ro])) (Nat.le_of_ble_eq_true rfl) ?_; rw [Try.ntmps92, Try.results92]
  simp -dsimp -implicitDefEqProofs only [go_sem, seval]
  refine AtFn.pure0 (len97 x h1 h2) ?_
  simp -dsimp -implicitDefEqProofs only [go_sem, seval, w]
end

section
set_option maxRecDepth 20000
attribute [local go_sem] clU32 clNat clBigT clBigC
def rgD (A : List Int) (s i : Nat) : Int := A.getD i 0 / 2 ^ s + A.getD (i + 1) 0 % 2 ^ s * 2 ^ (32 - s)
def RigO (A : List Int) (s : Nat) (i : Nat) (O : List Int) : Prop := O.length = A.length ∧ okD O ∧ 2 ^ s * valN O = valN (A.take i) - A.getD 0 0 % 2 ^ s + 4294967296 ^ i * (A.getD i 0 % 2 ^ s) ∧ ∀ k, i ≤ k → O.getD k 0 = 0
theorem rgD_b {A : List Int} {s : Nat} (hs : s < 32) (hA : okD A) (i : Nat) : 0 ≤ rgD A s i ∧ rgD A s i < 4294967296 := by
  have a0 := okD_get hA i
  have hp := pow_pos2 s
  have hq := pow_pos2 (32 - s)
  have e := (spl_mod 0 (s := s) (by omega)).2
  have h1 : 0 ≤ A.getD i 0 / 2 ^ s := Int.ediv_nonneg a0.1 (by omega)
  have h2 : A.getD i 0 / 2 ^ s < 2 ^ (32 - s) := Int.ediv_lt_of_lt_mul hp (by rw [Int.mul_comm, e]; exact a0.2)
  have h3 := Int.emod_nonneg (A.getD (i + 1) 0) (show (2 : Int) ^ s ≠ 0 by omega)
  have h4 := Int.emod_lt_of_pos (A.getD (i + 1) 0) hp
  have h5 : (A.getD (i + 1) 0 % 2 ^ s + 1) * 2 ^ (32 - s) ≤ 2 ^ s * 2 ^ (32 - s) := Int.mul_le_mul_of_nonneg_right (by omega) (by omega)
  have h6 : 0 ≤ A.getD (i + 1) 0 % 2 ^ s * 2 ^ (32 - s) := Int.mul_nonneg h3 (by omega)
  rw [Int.add_mul, Int.one_mul, e] at h5
  unfold rgD
  omega
theorem rig_step {A O : List Int} {s i : Nat} (hs : s < 32) (hA : okD A) (h : RigO A s i O) (hi : i < A.length) : RigO A s (i + 1) (O.set i (rgD A s i)) := by
  obtain ⟨h1, h2, h3, h4⟩ := h
  have e := (spl_mod 0 (s := s) (by omega)).2
  refine ⟨by rw [List.length_set, h1], okD_set h2 _ (rgD_b hs hA i), ?_, ?_⟩
  · rw [val_set _ (by omega), h4 i (Nat.le_refl _), Int.mul_add, h3, val_take, pow_s]
    unfold rgD
    have hd := Int.emod_add_mul_ediv (A.getD i 0) (2 ^ s)
    generalize hP : (4294967296 : Int) ^ i = P
    generalize hX : A.getD (i + 1) 0 % 2 ^ s = X
    have k1 : (2 : Int) ^ s * (P * (A.getD i 0 / 2 ^ s + X * 2 ^ (32 - s) - 0)) = P * (2 ^ s * (A.getD i 0 / 2 ^ s)) + 4294967296 * P * X := by
      rw [← e, Int.sub_zero]
      simp only [Int.mul_add, Int.mul_assoc, Int.mul_comm, Int.mul_left_comm]
    have k2 : P * A.getD i 0 = P * (A.getD i 0 % 2 ^ s) + P * (2 ^ s * (A.getD i 0 / 2 ^ s)) := by rw [← Int.mul_add, hd]
    rw [k1]
    omega
  · intro k hk
    by_cases hkl : k < O.length
    · rw [getD_setI hkl, if_neg (by omega)]
      exact h4 k (by omega)
    · exact getD_out (by rw [List.length_set]; omega)
theorem getD_0 {D : List Int} {k : Nat} (h : D.length ≤ k) : D.getD k 0 = 0 := getD_out h
theorem rig_end {A O : List Int} {s : Nat} (hA : okD A) (h : RigO A s A.length O) : valN O = valN A / 2 ^ s := by
  obtain ⟨h1, h2, h3, h4⟩ := h
  have hp := pow_pos2 s
  have b1 := Int.emod_nonneg (A.getD 0 0) (show (2 : Int) ^ s ≠ 0 by omega)
  have b2 := Int.emod_lt_of_pos (A.getD 0 0) hp
  rw [List.take_of_length_le (Nat.le_refl _), getD_0 (Nat.le_refl _), Int.zero_emod, Int.mul_zero, Int.add_zero] at h3
  have : valN A = A.getD 0 0 % 2 ^ s + 2 ^ s * valN O := by omega
  rw [this, Int.add_mul_ediv_left _ _ (by omega), Int.ediv_eq_zero_of_lt b1 b2, Int.zero_add]
theorem or_add2 {a b : Int} {s : Nat} (hs : s < 32) (ha : 0 ≤ a ∧ a < 4294967296) (hb : 0 ≤ b ∧ b < 4294967296) :
    ((BitVec.ofInt IntKind.u32.bits (a / 2 ^ s) ||| BitVec.ofInt IntKind.u32.bits (b * 4294967296 / 2 ^ s % 4294967296)).toNat : Int) % 4294967296 = a / 2 ^ s + b % 2 ^ s * 2 ^ (32 - s) := by
  have e := (spl_mod 0 (s := s) (by omega)).2
  have hp := pow_pos2 s
  have hq := pow_pos2 (32 - s)
  have h1 : 0 ≤ a / 2 ^ s := Int.ediv_nonneg ha.1 (by omega)
  have h2 : a / 2 ^ s < 2 ^ (32 - s) := Int.ediv_lt_of_lt_mul hp (by rw [Int.mul_comm, e]; exact ha.2)
  have h3 := Int.emod_nonneg b (show (2 : Int) ^ s ≠ 0 by omega)
  have h4 := Int.emod_lt_of_pos b hp
  have h5 : (b % 2 ^ s + 1) * 2 ^ (32 - s) ≤ 2 ^ s * 2 ^ (32 - s) := Int.mul_le_mul_of_nonneg_right (by omega) (by omega)
  have h6 : 0 ≤ b % 2 ^ s * 2 ^ (32 - s) := Int.mul_nonneg h3 (by omega)
  rw [Int.add_mul, Int.one_mul, e] at h5
  have k1 : b * 4294967296 / 2 ^ s = b * 2 ^ (32 - s) := by
    rw [← e, show b * (2 ^ s * 2 ^ (32 - s)) = b * 2 ^ (32 - s) * 2 ^ s by rw [Int.mul_assoc, Int.mul_comm (2 ^ s)], Int.mul_ediv_cancel _ (by omega)]
  have k2 : b * 2 ^ (32 - s) % 4294967296 = b % 2 ^ s * 2 ^ (32 - s) := by
    rw [← e, Int.mul_comm b, Int.mul_comm (2 ^ s) (2 ^ (32 - s)), Int.mul_emod_mul_of_pos _ _ hq, Int.mul_comm]
  rw [k1, k2]
  obtain ⟨n, hn⟩ := Int.eq_ofNat_of_zero_le h1
  obtain ⟨c, hc⟩ := Int.eq_ofNat_of_zero_le h3
  rw [hn] at h2 ⊢
  rw [hc] at h5 h6 ⊢
  have kk : ((c : Nat) : Int) * 2 ^ (32 - s) = ((2 ^ (32 - s) * c : Nat) : Int) := by push_cast; rw [Int.mul_comm]
  have hn2 : n < 2 ^ (32 - s) := by
    have : ((n : Nat) : Int) < ((2 ^ (32 - s) : Nat) : Int) := by push_cast; exact h2
    exact_mod_cast this
  rw [kk] at h5 h6 ⊢
  have hq2 : (2 : Int) ^ (32 - s) ≤ 4294967296 := Int.le_trans (pow_mono2 (show 32 - s ≤ 32 by omega)) (by decide)
  have n1 : ((n : Nat) : Int) % 4294967296 = (n : Nat) := Int.emod_eq_of_lt (by omega) (by omega)
  have n2 : ((2 ^ (32 - s) * c : Nat) : Int) % 4294967296 = (2 ^ (32 - s) * c : Nat) := Int.emod_eq_of_lt (by omega) (by omega)
  have kb : ((2 ^ IntKind.u32.bits : Nat) : Int) = 4294967296 := by decide
  rw [BitVec.toNat_or, BitVec.toNat_ofInt, BitVec.toNat_ofInt, kb, n1, n2, Int.toNat_natCast, Int.toNat_natCast, Nat.or_comm, ← Nat.two_pow_add_eq_or_of_lt hn2]
  omega
set_option maxHeartbeats 4000000 in
theorem right96 (A : List Int) (s : Nat) (hs : s < 32) (hA : okD A) (hAl : A.length < 1073741824) : PFun Try.prog 96 [NatA A, .v (.int .u64 s)] (NatA (dig (valN A / 2 ^ s))) := by
  have hn0 : ((A.length : Nat) : Int) ≤ 274877906944 := by omega
  refine PFun.intro 400 mixed Try.func96 (by kernel_rfl) rfl ((clNat _).2 trivial) (Nat.le_of_ble_eq_true rfl) ?_; rw [Try.ntmps96, Try.results96]
  simp -dsimp -implicitDefEqProofs only [go_sem, seval, List.length_map, Int.natCast_nonneg, Int.le_refl, hn0, Int.toNat_natCast]
  refine ⟨{p : Nat × List Int // p.1 ≤ A.length ∧ RigO A s p.1 p.2}, fun p => ⟨48, tl [(0, NatA A), (1, .v (.int .u64 s)), (5, .sl 0 0 A.length), (11, NatA A), (12, I (A.length : Nat)), (13, I p.1.1)], [(0, ⟨1, p.1.2.map U32C⟩)], 1, .nil⟩, fun p => A.length - p.1.1,
    ⟨⟨(0, List.replicate A.length 0), by omega, by simp, okD_rep _, by rw [val_rep, List.take_zero]; simp only [valN]; omega, fun k _ => getD_rep _ _⟩, Le.tl (Ls := []) (y := none) [] (by simp -dsimp -implicitDefEqProofs only [go_sem, seval]) ?_ (by simp) (by simp [sg]) trivial⟩, fun p => ?_⟩
  · simp -dsimp -implicitDefEqProofs only [go_sem, seval]
    exact renL_cl2 (by rw [List.map_replicate]) ((clU32 _).2 trivial)
  obtain ⟨⟨i, O⟩, hi, hO⟩ := p
  simp only at hi hO
  simp -dsimp -implicitDefEqProofs only [go_sem, seval]
  refine ⟨fun h => ?_, fun h => ?_⟩
  · have hlt : i < A.length := by omega
    have e3 : wr ((i : Int) + 1) = ((i + 1 : Nat) : Int) := by rw [wr_in] <;> omega
    have gA := getU (D := A) (i := i) hlt
    have gO := getU (D := O) (i := i) (by rw [hO.1]; omega)
    have c1 : ((i : Nat) : Int) < ((A.length : Nat) : Int) := by omega
    have da := okD_get hA i
    have db := okD_get hA (i + 1)
    have hst := rig_step hs hA hO hlt
    obtain ⟨h1, h2, h3, h4⟩ := hO
    have m1 : min s 32 = s := by omega
    have m2 : min s 64 = s := by omega
    have hp := pow_pos2 s
    have s1 : (A.getD i 0).fdiv (2 ^ s) = A.getD i 0 / 2 ^ s := Int.fdiv_eq_ediv_of_nonneg _ (by omega)
    have s2 : (A.getD (i + 1) 0 * 2 ^ 32).fdiv (2 ^ s) = A.getD (i + 1) 0 * 4294967296 / 2 ^ s := by rw [Int.fdiv_eq_ediv_of_nonneg _ (by omega)]; rfl
    have hor := or_add2 (s := s) hs da db
    by_cases c2 : ((i + 1 : Nat) : Int) < ((A.length : Nat) : Int)
    · have gA2 := getU (D := A) (i := i + 1) (by omega)
      have gO2 := getU (D := O.set i (A.getD i 0 / 2 ^ s)) (i := i) (by rw [List.length_set, h1]; omega)
      simp -dsimp -implicitDefEqProofs only [go_sem, seval, List.length_map, Int.natCast_nonneg, Int.toNat_natCast, gA, gO, c1, Nat.zero_add, m1, m2, s1, wu32m, setU, e3, c2]
      refine AtCode.draw 16 [([], []), ([], []), ([0, 1], []), ([0, 1, 2], []), ([], []), ([], []), ([5], []), ([4, 5, 6], []), ([4, 5, 6, 7], []), ([4, 5, 6, 7, 8], []), ([4, 5, 6, 7, 8, 9], []), ([], []), ([4, 5, 6, 7, 8, 9, 10, 11], []), ([4, 5, 6, 7, 8, 9, 10, 11, 12], []), ([0, 1, 2, 3, 4, 5, 6, 7, 8, 9, 10, 11, 12, 13], []), ([0, 1, 2, 3, 4, 5, 6, 7, 8, 9, 10, 11, 12, 13, 14], []), ([0, 1, 2, 3, 4, 5, 6, 7, 8, 9, 10, 11, 12, 13, 14, 15], [])] (by kernel_rfl) ?_
      simp -dsimp -implicitDefEqProofs only [go_sem, seval, List.length_map, Int.natCast_nonneg, Int.toNat_natCast, gA2, c1, Nat.zero_add, m1, m2, e3, s2, wu32m, setU, c2, gO2]
      have gg : (O.set i (A.getD i 0 / 2 ^ s)).getD i 0 = A.getD i 0 / 2 ^ s := by rw [getD_setI (by omega), if_pos rfl]
      have x1 : IntKind.u64.wrap (A.getD (i + 1) 0) = A.getD (i + 1) 0 := wu (by omega) (by omega)
      have x2 : IntKind.u64.wrap (A.getD (i + 1) 0 * 2 ^ min 32 64) = A.getD (i + 1) 0 * 2 ^ 32 := by
        rw [show ((2 : Int) ^ min 32 64) = 2 ^ 32 by decide]
        exact wu (Int.mul_nonneg db.1 (by decide)) (by rw [show ((2 : Int) ^ 32) = 4294967296 by decide]; omega)
      simp only [gg, x1, x2, s2, hor]
      refine ⟨⟨(i + 1, _), by show i + 1 ≤ A.length; omega, hst⟩, by show A.length - (i + 1) < A.length - i; omega, Le.tl (Ls := []) (y := none) [] (by simp -dsimp -implicitDefEqProofs only [go_sem, seval, e3]) ?_ (by simp) (by simp [sg]) trivial⟩
      simp -dsimp -implicitDefEqProofs only [go_sem, seval]
      exact renL_cl (by rw [List.set_set]; rfl) ((clU32 _).2 trivial)
    · have hz : A.getD (i + 1) 0 = 0 := getD_0 (by omega)
      have hr : rgD A s i = A.getD i 0 / 2 ^ s := by unfold rgD; rw [hz]; simp
      rw [hr] at hst
      simp -dsimp -implicitDefEqProofs only [go_sem, seval, List.length_map, Int.natCast_nonneg, Int.toNat_natCast, gA, gO, c1, Nat.zero_add, m1, m2, s1, wu32m, setU, e3, c2]
      refine ⟨⟨(i + 1, _), by show i + 1 ≤ A.length; omega, hst⟩, by show A.length - (i + 1) < A.length - i; omega, Le.tl (Ls := []) (y := none) [] (by simp -dsimp -implicitDefEqProofs only [go_sem, seval, e3]) ?_ (by simp) (by simp [sg]) trivial⟩
      simp -dsimp -implicitDefEqProofs only [go_sem, seval]
      exact renL_cl rfl ((clU32 _).2 trivial)
  · have hin : i = A.length := by omega
    subst hin
    have hv := rig_end hA hO
    obtain ⟨h1, h2, _⟩ := hO
    have ht := nat90 O (by omega) h2
    rw [hv] at ht
    refine AtFn.pure ht ?_
    simp -dsimp -implicitDefEqProofs only [go_sem, seval, List.length_map, takeU, Nat.le_refl, Nat.zero_add, h1]
end

end Go.Proofs.Ytckbchkkjnahlaa
