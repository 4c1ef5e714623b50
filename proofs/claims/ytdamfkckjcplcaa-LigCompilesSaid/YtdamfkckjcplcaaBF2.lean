/- What functions of the given program answer, part 2. Conditions: each theorem speaks for itself. -/
import Derived.Test.YtdamfkckjcplcaaBTy
import Derived.Test.YtdamfkckjcplcaaBF1
set_option linter.unusedSimpArgs false
set_option linter.unusedVariables false
namespace Go.Proofs.Ytdamfkckjcplcaa
open Go Go.Eng Go.RowKit
attribute [local go_sem ↓] qE_move qE_assign qE_pick qE_load qE_fieldAddr qE_indexAddr qE_extract qE_binOp qE_not qE_convert qE_makeFunc qE_build qE_len qE_nilCheck qE_slice vc_end vc_skip vc_ret vc_seq vc_cond vc_block vc_exit vc_region vc_draw vc_loop vc_blk vc_lp vc_o_nil vc_o vc_o_guard onK_eq oK_move oK_assign oK_pick oK_load oK_fieldAddr oK_indexAddr oK_index oK_extract oK_binOp oK_unOp oK_convert oK_makeFunc oK_nilCheck oK_slice oK_build oK_len onN_eq oK_box oK_alloc oK_buildSlice onH_eq oK_store onA_eq oK_append oK_call oK_makeMap oK_lookup oK_mapUpdate bV_add bV_sub bV_mul bV_shr bV_eql bV_neq bV_lss bV_leq bV_gtr bV_geq vcQ_nil vcQ_cons vcQ_guard Q_move Q_assign Q_pick Q_load Q_fieldAddr Q_indexAddr Q_extract Q_binOp Q_unOp Q_nilCheck Q_slice Q_build Q_len Q_box Q_alloc Q_makeSlice Q_buildSlice onQA_eq Q_call qE_index tailB_nil tailB_true onS_eq tailB_store onP_eq tailB_append onQ_eq onQB_eq loadE indexE
attribute [local go_sem] force_eq optK_some optE_some optE_none bK_v tK_t fnK_fn fyK_fn nK_ptr nK_rp pK_ptr pK_rp brK_true brK_false brK_not evA_tmp evA_const evA_func putA_some putA_none pushA_eq slots_zero slots_nil tl_nil tl_cons find_cons find_nil setN_cons setN_nil dropN_nil dropN_cons loE_none loE_some hiE_none hiE_some slE_sl slE_ro bE_i bE_eql bE_neq intsA_nil intsA_cons gdK_b gdK_u popTo_blk popTo_c popTo_lp nilE_tmp nilE_int nilE_nil srcE_ro srcE_sl dstE_sl fin_eq res_nil res_tmp res_cell tup1 tup0 optA_some frz_v frz_ro frz_unk frz_g frz_fn frz_ptr frz_sl optL_some nm_v nm_ro nm_unk nm_g nm_fn nm_ptr nm_sl cells_v cells_g cells_ro cells_sl cells_fn one_int one_bool one_slice oneA_v oneA_ro oneA_sl ofV_int ofV_bool ofV_slice ofV_pointer len_ro len_sl asI_int fill_nil fill_cons chunks_nil chunks_cons take_all DrawK_eq idR_eq addB_some roB_cons sg_nil sg_cons ren_unk ren_v ren_nil ren_ptr ren_sl ren_ro ren_rp iK_ro iK_sl ixE_g takeA_00 takeA_s nil_eq maskE_eq i_InlQ i_tup2 i_oneMap i_RenF_nil i_RenF_cons i_cut_nil i_cut_cons wrap_wr brK_dec maskH_eq upd_get slots_succ Cl_v Cl_ro Cl_rp Cl_fn Cl_g Cl_t Bool.false_eq_true decide_true decide_false beq_self_eq_true true_and and_true ne_eq not_true not_false_eq_true List.elem_cons List.elem_nil List.contains_cons List.contains_nil List.getD_cons_zero List.getD_cons_succ Int.cast_ofNat_Int Bool.or_true Bool.true_or Bool.or_false Bool.false_or if_true if_false List.toList_toArray List.map_cons List.map_nil List.cons_append List.nil_append List.append_nil List.flatMap_cons List.flatMap_nil List.getElem?_cons_zero List.getElem?_cons_succ List.length_cons List.length_nil List.drop_succ_cons List.drop_zero List.take_succ_cons List.take_zero List.all_cons List.all_nil List.set_cons_zero List.set_cons_succ Option.bind_some Option.bind_none Option.map_some Option.map_none List.headD_cons List.tail_cons List.getElem?_toArray beq_true beq_false Bool.not_true Bool.not_false Bool.true_and Bool.and_true Bool.false_and Bool.and_false newCh List.replicate_succ List.replicate_zero Option.some.injEq exists_eq_left' sg_nil sg_cons List.mem_cons List.not_mem_nil forall_eq_or_imp forall_eq false_implies implies_true or_false false_or false_and and_false or_true true_or exists_false Option.isSome_some Option.isSome_none List.range_zero
attribute [local go_sem] T.sz3 T.by3 T.ag3 T.ik3 T.us3 T.ze3 T.sz4 T.ag4 T.sz22 T.ag22 T.sl22 T.sz28 T.ag28 T.ze28 T.bu28 T.sz32 T.ag32 T.sl32 T.ar32 T.pt32 T.ik32 T.us32 T.sz33 T.ag33 T.sl33 T.ar33 T.pt33 T.ik33 T.us33 T.sz40 T.ag40 T.sl40 T.ik40 T.us40 T.sz42 T.ag42 T.ze42 T.fl42_0 T.bu42 T.sz46 T.ag46 T.sl46 T.sz48 T.ag48 T.ze48 T.fl48_0 T.fl48_1 T.fl48_2 T.bu48 T.sz50 T.by50 T.ag50 T.ze50 T.fl50_0 T.fl50_1 T.fl50_2 T.fl50_3 T.bu50 T.sz54 T.ag54 T.sz56 T.ag56 T.ze56 T.fl56_0 T.fl56_1 T.fl56_2 T.fl56_3 T.bu56 T.sz58 T.by58 T.ag58 T.ze58 T.fl58_0 T.fl58_1 T.bu58 T.sz63 T.ag63 T.ze63 T.fl63_0 T.fl63_1 T.fl63_2 T.fl63_3 T.bu63 T.sz70 T.ag70 T.ze70 T.bu70 T.ze77 T.fl77_0 T.fl77_1 T.fl77_2 T.fl77_3 T.fl77_4 T.bu77 T.ze82 T.fl82_0 T.fl82_1 T.fl82_2 T.fl82_3 T.bu82 T.sz83 T.ag83 T.sl83 T.ar83 T.sz95 T.ag95 T.ze97 T.fl97_0 T.fl97_1 T.bu97 T.ze99 T.fl99_0 T.fl99_1 T.fl99_2 T.bu99 T.ag101 T.ik109 T.us109 T.ag112
section
set_option maxRecDepth 20000
attribute [local go_sem] clRusL
abbrev hC (l : List Ru) (W K : List Int) : List (Nat × Blk) := [(0, ⟨3, [[Rus l, .sl 1 0 65536, .sl 2 0 65536]]⟩), (1, ⟨1, Cs W⟩), (2, ⟨1, Cs K⟩)]
theorem last38 (l : List Ru) (W : List Int) (hv : validR l = true) (hW : RowsOk l W) {M M' : Mm} {a b out : Int} (hd : Dfs l M a b out M') : ∀ K, code a → code b → RelK l M K →
    ∃ K', RelK l M' K' ∧ (out = -1 ∨ code out) ∧ MFun Try.prog 38 [.ptr 0 0 0, I a, I b] (hC l W K) 3 none [0] (I out) (hC l W K') 3 none := by
  have hl5 := (valid_iff hv).1
  have hWl := hW.len
  induction hd with
  | loop h => intro K ha hb; unfold code at ha hb; omega
  | @memo M a b v ha' hb' h =>
    intro K ha hb hK
    obtain ⟨x, hx, h0⟩ := hK.key a b v h
    have hKl := hK.len
    have hj := (ix_eq ha hb).2
    obtain ⟨j, hjd⟩ : ∃ j, j = ix a b := ⟨_, rfl⟩
    have e1 := ix_wr ha hb
    rw [← hjd] at hj e1
    have hjz : (j : Int) < 65536 := by omega
    have gW := getCs (show j < W.length by omega)
    have gK := getCs (show j < K.length by omega)
    obtain ⟨i, hi, hix, hWi⟩ := hW.yes a b x ha hb hx
    rw [← hjd] at hWi
    have e2 : wr ((i : Int) + 1 - 1) = (i : Int) := by rw [wr_in] <;> omega
    have hiz : (i : Int) < l.length := by omega
    have hi0 : ¬ (i : Int) < 0 := by omega
    have gR : (l.map ruC)[i]? = some (ruC x) := by rw [List.getElem?_map, getR hi, hix]; rfl
    have hy := hK.yes a b v ha hb h
    rw [← hjd] at hy
    refine ⟨K, hK, ?_, ?_⟩
    · rcases hy with h | h
      · exact .inl h.1
      · exact .inr h.1
    · refine MFun.intro 400 [6] mixed Try.func38 (by kernel_rfl) rfl (by rw [Try.results38]; rfl) (Nat.le_of_ble_eq_true rfl) ?_; rw [Try.ntmps38]
      simp -dsimp -implicitDefEqProofs (maxSteps := 1000000) only [go_sem, ↓reduceIte, Nat.reduceAdd, Nat.reduceSub, Nat.reduceMul, Nat.reduceLT, Nat.reduceLeDiff, Nat.reduceEqDiff, Nat.reduceBEq, Nat.reduceBNe, Int.reduceToNat, Int.reduceLT, Int.reduceLE, Int.reduceNeg, reduceCtorEq, Int.reduceEq, Int.reduceNe, e1, List.length_map, Int.natCast_nonneg, Int.toNat_natCast, hjz, Nat.zero_add, gW, gK, hWi, e2, hiz, hi0, gR, h0]
      refine ⟨fun h1 => ?_, fun h1 => ⟨fun h2 => ?_, fun h2 => ?_⟩⟩
      · have hv1 : v = -1 := by unfold code at hy; omega
        subst hv1
        refine FinM.mk [] [(0, .ptr 0 0 0)] (by simp -dsimp -implicitDefEqProofs (maxSteps := 1000000) only [go_sem, ↓reduceIte, Nat.reduceAdd, Nat.reduceSub, Nat.reduceMul, Nat.reduceLT, Nat.reduceLeDiff, Nat.reduceEqDiff, Nat.reduceBEq, Nat.reduceBNe, Int.reduceToNat, Int.reduceLT, Int.reduceLE, Int.reduceNeg, reduceCtorEq, Int.reduceEq, Int.reduceNe]) ?_ (by simp) (by simp [sg]) (by simp -dsimp -implicitDefEqProofs (maxSteps := 1000000) only [go_sem, ↓reduceIte, Nat.reduceAdd, Nat.reduceSub, Nat.reduceMul, Nat.reduceLT, Nat.reduceLeDiff, Nat.reduceEqDiff, Nat.reduceBEq, Nat.reduceBNe, Int.reduceToNat, Int.reduceLT, Int.reduceLE, Int.reduceNeg, reduceCtorEq, Int.reduceEq, Int.reduceNe]) ?_
        · simp -dsimp -implicitDefEqProofs (maxSteps := 1000000) only [go_sem, ↓reduceIte, Nat.reduceAdd, Nat.reduceSub, Nat.reduceMul, Nat.reduceLT, Nat.reduceLeDiff, Nat.reduceEqDiff, Nat.reduceBEq, Nat.reduceBNe, Int.reduceToNat, Int.reduceLT, Int.reduceLE, Int.reduceNeg, reduceCtorEq, Int.reduceEq, Int.reduceNe]
          exact ⟨renL_F (by simp -dsimp -implicitDefEqProofs (maxSteps := 1000000) only [go_sem, ↓reduceIte, Nat.reduceAdd, Nat.reduceSub, Nat.reduceMul, Nat.reduceLT, Nat.reduceLeDiff, Nat.reduceEqDiff, Nat.reduceBEq, Nat.reduceBNe, Int.reduceToNat, Int.reduceLT, Int.reduceLE, Int.reduceNeg, reduceCtorEq, Int.reduceEq, Int.reduceNe]), renL_cl rfl (clCs _), renL_cl rfl (clCs _)⟩
        · intro n hn
          simp only [List.mem_singleton] at hn
          subst hn
          exact ⟨0, _, _, rfl, rfl, rfl, rfl, rfl, by simp, by simp⟩
      · have e3 : wr (K.getD j 0 - 1) = v := by
          unfold code at hy
          rw [wr_in] <;> omega
        simp -dsimp -implicitDefEqProofs (maxSteps := 1000000) only [go_sem, ↓reduceIte, Nat.reduceAdd, Nat.reduceSub, Nat.reduceMul, Nat.reduceLT, Nat.reduceLeDiff, Nat.reduceEqDiff, Nat.reduceBEq, Nat.reduceBNe, Int.reduceToNat, Int.reduceLT, Int.reduceLE, Int.reduceNeg, reduceCtorEq, Int.reduceEq, Int.reduceNe, e3, hjz, Nat.zero_add, gK]
        refine FinM.mk [] [(0, .ptr 0 0 0)] (by simp -dsimp -implicitDefEqProofs (maxSteps := 1000000) only [go_sem, ↓reduceIte, Nat.reduceAdd, Nat.reduceSub, Nat.reduceMul, Nat.reduceLT, Nat.reduceLeDiff, Nat.reduceEqDiff, Nat.reduceBEq, Nat.reduceBNe, Int.reduceToNat, Int.reduceLT, Int.reduceLE, Int.reduceNeg, reduceCtorEq, Int.reduceEq, Int.reduceNe]) ?_ (by simp) (by simp [sg]) (by simp -dsimp -implicitDefEqProofs (maxSteps := 1000000) only [go_sem, ↓reduceIte, Nat.reduceAdd, Nat.reduceSub, Nat.reduceMul, Nat.reduceLT, Nat.reduceLeDiff, Nat.reduceEqDiff, Nat.reduceBEq, Nat.reduceBNe, Int.reduceToNat, Int.reduceLT, Int.reduceLE, Int.reduceNeg, reduceCtorEq, Int.reduceEq, Int.reduceNe]) ?_
        · simp -dsimp -implicitDefEqProofs (maxSteps := 1000000) only [go_sem, ↓reduceIte, Nat.reduceAdd, Nat.reduceSub, Nat.reduceMul, Nat.reduceLT, Nat.reduceLeDiff, Nat.reduceEqDiff, Nat.reduceBEq, Nat.reduceBNe, Int.reduceToNat, Int.reduceLT, Int.reduceLE, Int.reduceNeg, reduceCtorEq, Int.reduceEq, Int.reduceNe]
          exact ⟨renL_F (by simp -dsimp -implicitDefEqProofs (maxSteps := 1000000) only [go_sem, ↓reduceIte, Nat.reduceAdd, Nat.reduceSub, Nat.reduceMul, Nat.reduceLT, Nat.reduceLeDiff, Nat.reduceEqDiff, Nat.reduceBEq, Nat.reduceBNe, Int.reduceToNat, Int.reduceLT, Int.reduceLE, Int.reduceNeg, reduceCtorEq, Int.reduceEq, Int.reduceNe]), renL_cl rfl (clCs _), renL_cl rfl (clCs _)⟩
        · intro n hn
          simp only [List.mem_singleton] at hn
          subst hn
          exact ⟨0, _, _, rfl, rfl, rfl, rfl, rfl, by simp, by simp⟩
      · unfold code at hy; omega
  | @kern M a b ha' hb' h hr =>
    intro K ha hb hK
    have hKl := hK.len
    have hj := (ix_eq ha hb).2
    obtain ⟨j, hjd⟩ : ∃ j, j = ix a b := ⟨_, rfl⟩
    have e1 := ix_wr ha hb
    rw [← hjd] at hj e1
    have hjz : (j : Int) < 65536 := by omega
    have gW := getCs (show j < W.length by omega)
    have gK := getCs (show j < K.length by omega)
    refine ⟨K, hK, .inr hb, ?_⟩
    cases hx : ruleOf l a b with
    | none =>
      have hWi := hW.no a b ha hb hx
      rw [← hjd] at hWi
      have e2 : wr ((0 : Int) - 1) = -1 := by rw [wr_in] <;> omega
      refine MFun.intro 400 [6] mixed Try.func38 (by kernel_rfl) rfl (by rw [Try.results38]; rfl) (Nat.le_of_ble_eq_true rfl) ?_; rw [Try.ntmps38]
      simp -dsimp -implicitDefEqProofs (maxSteps := 1000000) only [go_sem, ↓reduceIte, Nat.reduceAdd, Nat.reduceSub, Nat.reduceMul, Nat.reduceLT, Nat.reduceLeDiff, Nat.reduceEqDiff, Nat.reduceBEq, Nat.reduceBNe, Int.reduceToNat, Int.reduceLT, Int.reduceLE, Int.reduceNeg, reduceCtorEq, Int.reduceEq, Int.reduceNe, e1, List.length_map, Int.natCast_nonneg, Int.toNat_natCast, hjz, Nat.zero_add, gW, gK, hWi, e2]
      refine FinM.mk [] [(0, .ptr 0 0 0)] (by simp -dsimp -implicitDefEqProofs (maxSteps := 1000000) only [go_sem, ↓reduceIte, Nat.reduceAdd, Nat.reduceSub, Nat.reduceMul, Nat.reduceLT, Nat.reduceLeDiff, Nat.reduceEqDiff, Nat.reduceBEq, Nat.reduceBNe, Int.reduceToNat, Int.reduceLT, Int.reduceLE, Int.reduceNeg, reduceCtorEq, Int.reduceEq, Int.reduceNe]) ?_ (by simp) (by simp [sg]) (by simp -dsimp -implicitDefEqProofs (maxSteps := 1000000) only [go_sem, ↓reduceIte, Nat.reduceAdd, Nat.reduceSub, Nat.reduceMul, Nat.reduceLT, Nat.reduceLeDiff, Nat.reduceEqDiff, Nat.reduceBEq, Nat.reduceBNe, Int.reduceToNat, Int.reduceLT, Int.reduceLE, Int.reduceNeg, reduceCtorEq, Int.reduceEq, Int.reduceNe]) ?_
      · simp -dsimp -implicitDefEqProofs (maxSteps := 1000000) only [go_sem, ↓reduceIte, Nat.reduceAdd, Nat.reduceSub, Nat.reduceMul, Nat.reduceLT, Nat.reduceLeDiff, Nat.reduceEqDiff, Nat.reduceBEq, Nat.reduceBNe, Int.reduceToNat, Int.reduceLT, Int.reduceLE, Int.reduceNeg, reduceCtorEq, Int.reduceEq, Int.reduceNe]
        exact ⟨renL_F (by simp -dsimp -implicitDefEqProofs (maxSteps := 1000000) only [go_sem, ↓reduceIte, Nat.reduceAdd, Nat.reduceSub, Nat.reduceMul, Nat.reduceLT, Nat.reduceLeDiff, Nat.reduceEqDiff, Nat.reduceBEq, Nat.reduceBNe, Int.reduceToNat, Int.reduceLT, Int.reduceLE, Int.reduceNeg, reduceCtorEq, Int.reduceEq, Int.reduceNe]), renL_cl rfl (clCs _), renL_cl rfl (clCs _)⟩
      · intro n hn
        simp only [List.mem_singleton] at hn
        subst hn
        exact ⟨0, _, _, rfl, rfl, rfl, rfl, rfl, by simp, by simp⟩
    | some x =>
      obtain ⟨i, hi, hix, hWi⟩ := hW.yes a b x ha hb hx
      rw [← hjd] at hWi
      have e2 : wr ((i : Int) + 1 - 1) = (i : Int) := by rw [wr_in] <;> omega
      have hiz : (i : Int) < l.length := by omega
      have hi0 : ¬ (i : Int) < 0 := by omega
      have gR : (l.map ruC)[i]? = some (ruC x) := by rw [List.getElem?_map, getR hi, hix]; rfl
      refine MFun.intro 400 [6] mixed Try.func38 (by kernel_rfl) rfl (by rw [Try.results38]; rfl) (Nat.le_of_ble_eq_true rfl) ?_; rw [Try.ntmps38]
      simp -dsimp -implicitDefEqProofs (maxSteps := 1000000) only [go_sem, ↓reduceIte, Nat.reduceAdd, Nat.reduceSub, Nat.reduceMul, Nat.reduceLT, Nat.reduceLeDiff, Nat.reduceEqDiff, Nat.reduceBEq, Nat.reduceBNe, Int.reduceToNat, Int.reduceLT, Int.reduceLE, Int.reduceNeg, reduceCtorEq, Int.reduceEq, Int.reduceNe, e1, List.length_map, Int.natCast_nonneg, Int.toNat_natCast, hjz, Nat.zero_add, gW, gK, hWi, e2, hiz, hi0, gR, hr x hx]
      refine FinM.mk [] [(0, .ptr 0 0 0)] (by simp -dsimp -implicitDefEqProofs (maxSteps := 1000000) only [go_sem, ↓reduceIte, Nat.reduceAdd, Nat.reduceSub, Nat.reduceMul, Nat.reduceLT, Nat.reduceLeDiff, Nat.reduceEqDiff, Nat.reduceBEq, Nat.reduceBNe, Int.reduceToNat, Int.reduceLT, Int.reduceLE, Int.reduceNeg, reduceCtorEq, Int.reduceEq, Int.reduceNe]) ?_ (by simp) (by simp [sg]) (by simp -dsimp -implicitDefEqProofs (maxSteps := 1000000) only [go_sem, ↓reduceIte, Nat.reduceAdd, Nat.reduceSub, Nat.reduceMul, Nat.reduceLT, Nat.reduceLeDiff, Nat.reduceEqDiff, Nat.reduceBEq, Nat.reduceBNe, Int.reduceToNat, Int.reduceLT, Int.reduceLE, Int.reduceNeg, reduceCtorEq, Int.reduceEq, Int.reduceNe]) ?_
      · simp -dsimp -implicitDefEqProofs (maxSteps := 1000000) only [go_sem, ↓reduceIte, Nat.reduceAdd, Nat.reduceSub, Nat.reduceMul, Nat.reduceLT, Nat.reduceLeDiff, Nat.reduceEqDiff, Nat.reduceBEq, Nat.reduceBNe, Int.reduceToNat, Int.reduceLT, Int.reduceLE, Int.reduceNeg, reduceCtorEq, Int.reduceEq, Int.reduceNe]
        exact ⟨renL_F (by simp -dsimp -implicitDefEqProofs (maxSteps := 1000000) only [go_sem, ↓reduceIte, Nat.reduceAdd, Nat.reduceSub, Nat.reduceMul, Nat.reduceLT, Nat.reduceLeDiff, Nat.reduceEqDiff, Nat.reduceBEq, Nat.reduceBNe, Int.reduceToNat, Int.reduceLT, Int.reduceLE, Int.reduceNeg, reduceCtorEq, Int.reduceEq, Int.reduceNe]), renL_cl rfl (clCs _), renL_cl rfl (clCs _)⟩
      · intro n hn
        simp only [List.mem_singleton] at hn
        subst hn
        exact ⟨0, _, _, rfl, rfl, rfl, rfl, rfl, by simp, by simp⟩
  | @one M a b x ha' hb' h hx ho =>
    intro K ha hb hK
    have h0 := ho.1
    have hKl := hK.len
    have hj := (ix_eq ha hb).2
    obtain ⟨j, hjd⟩ : ∃ j, j = ix a b := ⟨_, rfl⟩
    have e1 := ix_wr ha hb
    rw [← hjd] at hj e1
    have hjz : (j : Int) < 65536 := by omega
    have gW := getCs (show j < W.length by omega)
    have gK := getCs (show j < K.length by omega)
    obtain ⟨i, hi, hix, hWi⟩ := hW.yes a b x ha hb hx
    rw [← hjd] at hWi
    have e2 : wr ((i : Int) + 1 - 1) = (i : Int) := by rw [wr_in] <;> omega
    have hiz : (i : Int) < l.length := by omega
    have hi0 : ¬ (i : Int) < 0 := by omega
    have gR : (l.map ruC)[i]? = some (ruC x) := by rw [List.getElem?_map, getR hi, hix]; rfl
    obtain ⟨_, _, hcv⟩ := okCode hv hi
    rw [hix] at hcv
    have hcv := hcv h0
    have hk0 : K.getD j 0 = 0 := by rw [hjd]; exact hK.no a b ha hb h
    have hK1 := hK.put ha hb hx h0 (v := -1) (w := -1) (.inl ⟨rfl, by omega⟩)
    rw [← hjd] at hK1
    have hout : x.v = -1 ∨ code x.v := .inr hcv
    refine ⟨((K.set j (-1))).set j (if x.v = -1 then -2 else x.v + 1), ?_, hout, ?_⟩
    · have h8 := (hK1).put ha hb hx h0 (v := x.v) (w := if x.v = -1 then -2 else x.v + 1) (by
        rcases hout with h9 | h9
        · exact .inl ⟨h9, by rw [if_pos h9]; omega⟩
        · exact .inr ⟨h9, by rw [if_neg]; unfold code at h9; omega⟩)
      rw [← hjd] at h8
      exact h8
    ·
      refine MFun.intro 400 [6] mixed Try.func38 (by kernel_rfl) rfl (by rw [Try.results38]; rfl) (Nat.le_of_ble_eq_true rfl) ?_; rw [Try.ntmps38]
      simp -dsimp -implicitDefEqProofs (maxSteps := 1000000) only [go_sem, ↓reduceIte, Nat.reduceAdd, Nat.reduceSub, Nat.reduceMul, Nat.reduceLT, Nat.reduceLeDiff, Nat.reduceEqDiff, Nat.reduceBEq, Nat.reduceBNe, Int.reduceToNat, Int.reduceLT, Int.reduceLE, Int.reduceNeg, reduceCtorEq, Int.reduceEq, Int.reduceNe, e1, List.length_map, Int.natCast_nonneg, Int.toNat_natCast, hjz, Nat.zero_add, gW, gK, hWi, e2, hiz, hi0, gR, h0, hk0, setCs]
      simp -dsimp -implicitDefEqProofs (maxSteps := 1000000) only [go_sem, ↓reduceIte, Nat.reduceAdd, Nat.reduceSub, Nat.reduceMul, Nat.reduceLT, Nat.reduceLeDiff, Nat.reduceEqDiff, Nat.reduceBEq, Nat.reduceBNe, Int.reduceToNat, Int.reduceLT, Int.reduceLE, Int.reduceNeg, reduceCtorEq, Int.reduceEq, Int.reduceNe, ho.2.1, ho.2.2.1, ho.2.2.2, true_implies]
      have gK9 := getCs (show j < ((K.set j (-1))).length by rw [(hK1).len]; exact hj)
      have hKl9 := (hK1).len
      simp -dsimp -implicitDefEqProofs (maxSteps := 1000000) only [go_sem, ↓reduceIte, Nat.reduceAdd, Nat.reduceSub, Nat.reduceMul, Nat.reduceLT, Nat.reduceLeDiff, Nat.reduceEqDiff, Nat.reduceBEq, Nat.reduceBNe, Int.reduceToNat, Int.reduceLT, Int.reduceLE, Int.reduceNeg, reduceCtorEq, Int.reduceEq, Int.reduceNe, hjz, Nat.zero_add, Int.natCast_nonneg, Int.toNat_natCast, gK9, setCs]
      refine ⟨fun h9 => ?_, fun h9 => ?_⟩
      · have h10 : x.v = -1 := by have := hout; unfold code at this; omega
        have gK8 := getCs (show j < (((K.set j (-1))).set j (wr (x.v + 1))).length by rw [List.length_set, hKl9]; exact hj)
        simp -dsimp -implicitDefEqProofs (maxSteps := 1000000) only [go_sem, ↓reduceIte, Nat.reduceAdd, Nat.reduceSub, Nat.reduceMul, Nat.reduceLT, Nat.reduceLeDiff, Nat.reduceEqDiff, Nat.reduceBEq, Nat.reduceBNe, Int.reduceToNat, Int.reduceLT, Int.reduceLE, Int.reduceNeg, reduceCtorEq, Int.reduceEq, Int.reduceNe, hjz, Nat.zero_add, Int.natCast_nonneg, Int.toNat_natCast, gK8, setCs]
        rw [if_pos h10, ← set_set ((K.set j (-1))) j (wr (x.v + 1)) (-2)]
        refine FinM.mk [] [(0, .ptr 0 0 0)] (by simp -dsimp -implicitDefEqProofs (maxSteps := 1000000) only [go_sem, ↓reduceIte, Nat.reduceAdd, Nat.reduceSub, Nat.reduceMul, Nat.reduceLT, Nat.reduceLeDiff, Nat.reduceEqDiff, Nat.reduceBEq, Nat.reduceBNe, Int.reduceToNat, Int.reduceLT, Int.reduceLE, Int.reduceNeg, reduceCtorEq, Int.reduceEq, Int.reduceNe]) ?_ (by simp) (by simp [sg]) (by simp -dsimp -implicitDefEqProofs (maxSteps := 1000000) only [go_sem, ↓reduceIte, Nat.reduceAdd, Nat.reduceSub, Nat.reduceMul, Nat.reduceLT, Nat.reduceLeDiff, Nat.reduceEqDiff, Nat.reduceBEq, Nat.reduceBNe, Int.reduceToNat, Int.reduceLT, Int.reduceLE, Int.reduceNeg, reduceCtorEq, Int.reduceEq, Int.reduceNe]) ?_
        · simp -dsimp -implicitDefEqProofs (maxSteps := 1000000) only [go_sem, ↓reduceIte, Nat.reduceAdd, Nat.reduceSub, Nat.reduceMul, Nat.reduceLT, Nat.reduceLeDiff, Nat.reduceEqDiff, Nat.reduceBEq, Nat.reduceBNe, Int.reduceToNat, Int.reduceLT, Int.reduceLE, Int.reduceNeg, reduceCtorEq, Int.reduceEq, Int.reduceNe]
          exact ⟨renL_F (by simp -dsimp -implicitDefEqProofs (maxSteps := 1000000) only [go_sem, ↓reduceIte, Nat.reduceAdd, Nat.reduceSub, Nat.reduceMul, Nat.reduceLT, Nat.reduceLeDiff, Nat.reduceEqDiff, Nat.reduceBEq, Nat.reduceBNe, Int.reduceToNat, Int.reduceLT, Int.reduceLE, Int.reduceNeg, reduceCtorEq, Int.reduceEq, Int.reduceNe]), renL_cl rfl (clCs _), renL_cl rfl (clCs _)⟩
        · intro n hn
          simp only [List.mem_singleton] at hn
          subst hn
          exact ⟨0, _, _, rfl, rfl, rfl, rfl, rfl, by simp, by simp⟩
      · have h10 : ¬ x.v = -1 := by omega
        have h11 : wr (x.v + 1) = x.v + 1 := by have := hout; unfold code at this; rw [wr_in] <;> omega
        rw [if_neg h10, h11]
        refine FinM.mk [] [(0, .ptr 0 0 0)] (by simp -dsimp -implicitDefEqProofs (maxSteps := 1000000) only [go_sem, ↓reduceIte, Nat.reduceAdd, Nat.reduceSub, Nat.reduceMul, Nat.reduceLT, Nat.reduceLeDiff, Nat.reduceEqDiff, Nat.reduceBEq, Nat.reduceBNe, Int.reduceToNat, Int.reduceLT, Int.reduceLE, Int.reduceNeg, reduceCtorEq, Int.reduceEq, Int.reduceNe]) ?_ (by simp) (by simp [sg]) (by simp -dsimp -implicitDefEqProofs (maxSteps := 1000000) only [go_sem, ↓reduceIte, Nat.reduceAdd, Nat.reduceSub, Nat.reduceMul, Nat.reduceLT, Nat.reduceLeDiff, Nat.reduceEqDiff, Nat.reduceBEq, Nat.reduceBNe, Int.reduceToNat, Int.reduceLT, Int.reduceLE, Int.reduceNeg, reduceCtorEq, Int.reduceEq, Int.reduceNe]) ?_
        · simp -dsimp -implicitDefEqProofs (maxSteps := 1000000) only [go_sem, ↓reduceIte, Nat.reduceAdd, Nat.reduceSub, Nat.reduceMul, Nat.reduceLT, Nat.reduceLeDiff, Nat.reduceEqDiff, Nat.reduceBEq, Nat.reduceBNe, Int.reduceToNat, Int.reduceLT, Int.reduceLE, Int.reduceNeg, reduceCtorEq, Int.reduceEq, Int.reduceNe]
          exact ⟨renL_F (by simp -dsimp -implicitDefEqProofs (maxSteps := 1000000) only [go_sem, ↓reduceIte, Nat.reduceAdd, Nat.reduceSub, Nat.reduceMul, Nat.reduceLT, Nat.reduceLeDiff, Nat.reduceEqDiff, Nat.reduceBEq, Nat.reduceBNe, Int.reduceToNat, Int.reduceLT, Int.reduceLE, Int.reduceNeg, reduceCtorEq, Int.reduceEq, Int.reduceNe]), renL_cl rfl (clCs _), renL_cl rfl (clCs _)⟩
        · intro n hn
          simp only [List.mem_singleton] at hn
          subst hn
          exact ⟨0, _, _, rfl, rfl, rfl, rfl, rfl, by simp, by simp⟩
  | @left M M2 a b out x ha' hb' h hx ho _ ih =>
    intro K ha hb hK
    have h0 : x.o ≠ 0 := by omega
    have hKl := hK.len
    have hj := (ix_eq ha hb).2
    obtain ⟨j, hjd⟩ : ∃ j, j = ix a b := ⟨_, rfl⟩
    have e1 := ix_wr ha hb
    rw [← hjd] at hj e1
    have hjz : (j : Int) < 65536 := by omega
    have gW := getCs (show j < W.length by omega)
    have gK := getCs (show j < K.length by omega)
    obtain ⟨i, hi, hix, hWi⟩ := hW.yes a b x ha hb hx
    rw [← hjd] at hWi
    have e2 : wr ((i : Int) + 1 - 1) = (i : Int) := by rw [wr_in] <;> omega
    have hiz : (i : Int) < l.length := by omega
    have hi0 : ¬ (i : Int) < 0 := by omega
    have gR : (l.map ruC)[i]? = some (ruC x) := by rw [List.getElem?_map, getR hi, hix]; rfl
    obtain ⟨_, _, hcv⟩ := okCode hv hi
    rw [hix] at hcv
    have hcv := hcv h0
    have hk0 : K.getD j 0 = 0 := by rw [hjd]; exact hK.no a b ha hb h
    have hK1 := hK.put ha hb hx h0 (v := -1) (w := -1) (.inl ⟨rfl, by omega⟩)
    rw [← hjd] at hK1
    obtain ⟨K2, hK2, hout, ic⟩ := ih _ ha hcv hK1
    refine ⟨(K2).set j (if out = -1 then -2 else out + 1), ?_, hout, ?_⟩
    · have h8 := (hK2).put ha hb hx h0 (v := out) (w := if out = -1 then -2 else out + 1) (by
        rcases hout with h9 | h9
        · exact .inl ⟨h9, by rw [if_pos h9]; omega⟩
        · exact .inr ⟨h9, by rw [if_neg]; unfold code at h9; omega⟩)
      rw [← hjd] at h8
      exact h8
    ·
      refine MFun.intro 400 [6] mixed Try.func38 (by kernel_rfl) rfl (by rw [Try.results38]; rfl) (Nat.le_of_ble_eq_true rfl) ?_; rw [Try.ntmps38]
      simp -dsimp -implicitDefEqProofs (maxSteps := 1000000) only [go_sem, ↓reduceIte, Nat.reduceAdd, Nat.reduceSub, Nat.reduceMul, Nat.reduceLT, Nat.reduceLeDiff, Nat.reduceEqDiff, Nat.reduceBEq, Nat.reduceBNe, Int.reduceToNat, Int.reduceLT, Int.reduceLE, Int.reduceNeg, reduceCtorEq, Int.reduceEq, Int.reduceNe, e1, List.length_map, Int.natCast_nonneg, Int.toNat_natCast, hjz, Nat.zero_add, gW, gK, hWi, e2, hiz, hi0, gR, h0, hk0, setCs]
      simp -dsimp -implicitDefEqProofs (maxSteps := 1000000) only [go_sem, ↓reduceIte, Nat.reduceAdd, Nat.reduceSub, Nat.reduceMul, Nat.reduceLT, Nat.reduceLeDiff, Nat.reduceEqDiff, Nat.reduceBEq, Nat.reduceBNe, Int.reduceToNat, Int.reduceLT, Int.reduceLE, Int.reduceNeg, reduceCtorEq, Int.reduceEq, Int.reduceNe, ho, true_implies]
      refine AtFn.le ⟨125, tl [(0, .ptr 0 0 0), (1, I a), (2, I b), (7, I j), (8, I i), (9, I x.v), (86, .ptr 0 0 0), (87, I a), (88, I x.v)], hC l W (K.set j (-1)), 3, ⟨[tl [(0, .ptr 0 0 0)]], some (.mp none)⟩⟩ [.ptr 0 0 0, I a, I x.v] (Le.tl (Ls := [[(0, .ptr 0 0 0)]]) [] (by simp -dsimp -implicitDefEqProofs (maxSteps := 1000000) only [go_sem, ↓reduceIte, Nat.reduceAdd, Nat.reduceSub, Nat.reduceMul, Nat.reduceLT, Nat.reduceLeDiff, Nat.reduceEqDiff, Nat.reduceBEq, Nat.reduceBNe, Int.reduceToNat, Int.reduceLT, Int.reduceLE, Int.reduceNeg, reduceCtorEq, Int.reduceEq, Int.reduceNe]) ?_ (by simp) (by simp [sg]) ⟨by simp -dsimp -implicitDefEqProofs (maxSteps := 1000000) only [go_sem, ↓reduceIte, Nat.reduceAdd, Nat.reduceSub, Nat.reduceMul, Nat.reduceLT, Nat.reduceLeDiff, Nat.reduceEqDiff, Nat.reduceBEq, Nat.reduceBNe, Int.reduceToNat, Int.reduceLT, Int.reduceLE, Int.reduceNeg, reduceCtorEq, Int.reduceEq, Int.reduceNe], trivial⟩)
        (by intro fo xs ts h; cases h; exact ⟨by simp -dsimp -implicitDefEqProofs (maxSteps := 1000000) only [go_sem, ↓reduceIte, Nat.reduceAdd, Nat.reduceSub, Nat.reduceMul, Nat.reduceLT, Nat.reduceLeDiff, Nat.reduceEqDiff, Nat.reduceBEq, Nat.reduceBNe, Int.reduceToNat, Int.reduceLT, Int.reduceLE, Int.reduceNeg, reduceCtorEq, Int.reduceEq, Int.reduceNe], by simp -dsimp -implicitDefEqProofs (maxSteps := 1000000) only [go_sem, ↓reduceIte, Nat.reduceAdd, Nat.reduceSub, Nat.reduceMul, Nat.reduceLT, Nat.reduceLeDiff, Nat.reduceEqDiff, Nat.reduceBEq, Nat.reduceBNe, Int.reduceToNat, Int.reduceLT, Int.reduceLE, Int.reduceNeg, reduceCtorEq, Int.reduceEq, Int.reduceNe]⟩) ?_
      · simp -dsimp -implicitDefEqProofs (maxSteps := 1000000) only [go_sem, ↓reduceIte, Nat.reduceAdd, Nat.reduceSub, Nat.reduceMul, Nat.reduceLT, Nat.reduceLeDiff, Nat.reduceEqDiff, Nat.reduceBEq, Nat.reduceBNe, Int.reduceToNat, Int.reduceLT, Int.reduceLE, Int.reduceNeg, reduceCtorEq, Int.reduceEq, Int.reduceNe]
        exact ⟨renL_F (by simp -dsimp -implicitDefEqProofs (maxSteps := 1000000) only [go_sem, ↓reduceIte, Nat.reduceAdd, Nat.reduceSub, Nat.reduceMul, Nat.reduceLT, Nat.reduceLeDiff, Nat.reduceEqDiff, Nat.reduceBEq, Nat.reduceBNe, Int.reduceToNat, Int.reduceLT, Int.reduceLE, Int.reduceNeg, reduceCtorEq, Int.reduceEq, Int.reduceNe]), renL_cl rfl (clCs _), renL_cl rfl (clCs _)⟩
      refine AtFn.m' (h0 := hC l W (K.set j (-1))) (hr := []) (k' := 3) id ic (MOk.id (Ls := [[(0, .ptr 0 0 0)]]) (by simp) (by simp -dsimp -implicitDefEqProofs (maxSteps := 1000000) only [go_sem, ↓reduceIte, Nat.reduceAdd, Nat.reduceSub, Nat.reduceMul, Nat.reduceLT, Nat.reduceLeDiff, Nat.reduceEqDiff, Nat.reduceBEq, Nat.reduceBNe, Int.reduceToNat, Int.reduceLT, Int.reduceLE, Int.reduceNeg, reduceCtorEq, Int.reduceEq, Int.reduceNe, id_eq]) ?_ (by simp -dsimp -implicitDefEqProofs (maxSteps := 1000000) only [go_sem, ↓reduceIte, Nat.reduceAdd, Nat.reduceSub, Nat.reduceMul, Nat.reduceLT, Nat.reduceLeDiff, Nat.reduceEqDiff, Nat.reduceBEq, Nat.reduceBNe, Int.reduceToNat, Int.reduceLT, Int.reduceLE, Int.reduceNeg, reduceCtorEq, Int.reduceEq, Int.reduceNe, id_eq]) (by simp -dsimp -implicitDefEqProofs (maxSteps := 1000000) only [go_sem, ↓reduceIte, Nat.reduceAdd, Nat.reduceSub, Nat.reduceMul, Nat.reduceLT, Nat.reduceLeDiff, Nat.reduceEqDiff, Nat.reduceBEq, Nat.reduceBNe, Int.reduceToNat, Int.reduceLT, Int.reduceLE, Int.reduceNeg, reduceCtorEq, Int.reduceEq, Int.reduceNe, id_eq]) (by simp) (by simp) ?_ (.cl (.v _)) (by simp) (by simp) (by simp)) ?_
      · simp -dsimp -implicitDefEqProofs (maxSteps := 1000000) only [go_sem, ↓reduceIte, Nat.reduceAdd, Nat.reduceSub, Nat.reduceMul, Nat.reduceLT, Nat.reduceLeDiff, Nat.reduceEqDiff, Nat.reduceBEq, Nat.reduceBNe, Int.reduceToNat, Int.reduceLT, Int.reduceLE, Int.reduceNeg, reduceCtorEq, Int.reduceEq, Int.reduceNe, id_eq]
        exact ⟨renL_F (by simp -dsimp -implicitDefEqProofs (maxSteps := 1000000) only [go_sem, ↓reduceIte, Nat.reduceAdd, Nat.reduceSub, Nat.reduceMul, Nat.reduceLT, Nat.reduceLeDiff, Nat.reduceEqDiff, Nat.reduceBEq, Nat.reduceBNe, Int.reduceToNat, Int.reduceLT, Int.reduceLE, Int.reduceNeg, reduceCtorEq, Int.reduceEq, Int.reduceNe, id_eq]), renL_cl rfl (clCs _), renL_cl rfl (clCs _)⟩
      · simp -dsimp -implicitDefEqProofs (maxSteps := 1000000) only [go_sem, ↓reduceIte, Nat.reduceAdd, Nat.reduceSub, Nat.reduceMul, Nat.reduceLT, Nat.reduceLeDiff, Nat.reduceEqDiff, Nat.reduceBEq, Nat.reduceBNe, Int.reduceToNat, Int.reduceLT, Int.reduceLE, Int.reduceNeg, reduceCtorEq, Int.reduceEq, Int.reduceNe, id_eq]
        exact ⟨renL_F (by simp -dsimp -implicitDefEqProofs (maxSteps := 1000000) only [go_sem, ↓reduceIte, Nat.reduceAdd, Nat.reduceSub, Nat.reduceMul, Nat.reduceLT, Nat.reduceLeDiff, Nat.reduceEqDiff, Nat.reduceBEq, Nat.reduceBNe, Int.reduceToNat, Int.reduceLT, Int.reduceLE, Int.reduceNeg, reduceCtorEq, Int.reduceEq, Int.reduceNe, id_eq]), renL_cl rfl (clCs _), renL_cl rfl (clCs _)⟩
      simp -dsimp -implicitDefEqProofs (maxSteps := 1000000) only [go_sem, ↓reduceIte, Nat.reduceAdd, Nat.reduceSub, Nat.reduceMul, Nat.reduceLT, Nat.reduceLeDiff, Nat.reduceEqDiff, Nat.reduceBEq, Nat.reduceBNe, Int.reduceToNat, Int.reduceLT, Int.reduceLE, Int.reduceNeg, reduceCtorEq, Int.reduceEq, Int.reduceNe]
      have gK9 := getCs (show j < (K2).length by rw [(hK2).len]; exact hj)
      have hKl9 := (hK2).len
      simp -dsimp -implicitDefEqProofs (maxSteps := 1000000) only [go_sem, ↓reduceIte, Nat.reduceAdd, Nat.reduceSub, Nat.reduceMul, Nat.reduceLT, Nat.reduceLeDiff, Nat.reduceEqDiff, Nat.reduceBEq, Nat.reduceBNe, Int.reduceToNat, Int.reduceLT, Int.reduceLE, Int.reduceNeg, reduceCtorEq, Int.reduceEq, Int.reduceNe, hjz, Nat.zero_add, Int.natCast_nonneg, Int.toNat_natCast, gK9, setCs]
      refine ⟨fun h9 => ?_, fun h9 => ?_⟩
      · have h10 : out = -1 := by have := hout; unfold code at this; omega
        have gK8 := getCs (show j < ((K2).set j (wr (out + 1))).length by rw [List.length_set, hKl9]; exact hj)
        simp -dsimp -implicitDefEqProofs (maxSteps := 1000000) only [go_sem, ↓reduceIte, Nat.reduceAdd, Nat.reduceSub, Nat.reduceMul, Nat.reduceLT, Nat.reduceLeDiff, Nat.reduceEqDiff, Nat.reduceBEq, Nat.reduceBNe, Int.reduceToNat, Int.reduceLT, Int.reduceLE, Int.reduceNeg, reduceCtorEq, Int.reduceEq, Int.reduceNe, hjz, Nat.zero_add, Int.natCast_nonneg, Int.toNat_natCast, gK8, setCs]
        rw [if_pos h10, ← set_set (K2) j (wr (out + 1)) (-2)]
        refine FinM.mk [] [(0, .ptr 0 0 0)] (by simp -dsimp -implicitDefEqProofs (maxSteps := 1000000) only [go_sem, ↓reduceIte, Nat.reduceAdd, Nat.reduceSub, Nat.reduceMul, Nat.reduceLT, Nat.reduceLeDiff, Nat.reduceEqDiff, Nat.reduceBEq, Nat.reduceBNe, Int.reduceToNat, Int.reduceLT, Int.reduceLE, Int.reduceNeg, reduceCtorEq, Int.reduceEq, Int.reduceNe]) ?_ (by simp) (by simp [sg]) (by simp -dsimp -implicitDefEqProofs (maxSteps := 1000000) only [go_sem, ↓reduceIte, Nat.reduceAdd, Nat.reduceSub, Nat.reduceMul, Nat.reduceLT, Nat.reduceLeDiff, Nat.reduceEqDiff, Nat.reduceBEq, Nat.reduceBNe, Int.reduceToNat, Int.reduceLT, Int.reduceLE, Int.reduceNeg, reduceCtorEq, Int.reduceEq, Int.reduceNe]) ?_
        · simp -dsimp -implicitDefEqProofs (maxSteps := 1000000) only [go_sem, ↓reduceIte, Nat.reduceAdd, Nat.reduceSub, Nat.reduceMul, Nat.reduceLT, Nat.reduceLeDiff, Nat.reduceEqDiff, Nat.reduceBEq, Nat.reduceBNe, Int.reduceToNat, Int.reduceLT, Int.reduceLE, Int.reduceNeg, reduceCtorEq, Int.reduceEq, Int.reduceNe]
          exact ⟨renL_F (by simp -dsimp -implicitDefEqProofs (maxSteps := 1000000) only [go_sem, ↓reduceIte, Nat.reduceAdd, Nat.reduceSub, Nat.reduceMul, Nat.reduceLT, Nat.reduceLeDiff, Nat.reduceEqDiff, Nat.reduceBEq, Nat.reduceBNe, Int.reduceToNat, Int.reduceLT, Int.reduceLE, Int.reduceNeg, reduceCtorEq, Int.reduceEq, Int.reduceNe]), renL_cl rfl (clCs _), renL_cl rfl (clCs _)⟩
        · intro n hn
          simp only [List.mem_singleton] at hn
          subst hn
          exact ⟨0, _, _, rfl, rfl, rfl, rfl, rfl, by simp, by simp⟩
      · have h10 : ¬ out = -1 := by omega
        have h11 : wr (out + 1) = out + 1 := by have := hout; unfold code at this; rw [wr_in] <;> omega
        rw [if_neg h10, h11]
        refine FinM.mk [] [(0, .ptr 0 0 0)] (by simp -dsimp -implicitDefEqProofs (maxSteps := 1000000) only [go_sem, ↓reduceIte, Nat.reduceAdd, Nat.reduceSub, Nat.reduceMul, Nat.reduceLT, Nat.reduceLeDiff, Nat.reduceEqDiff, Nat.reduceBEq, Nat.reduceBNe, Int.reduceToNat, Int.reduceLT, Int.reduceLE, Int.reduceNeg, reduceCtorEq, Int.reduceEq, Int.reduceNe]) ?_ (by simp) (by simp [sg]) (by simp -dsimp -implicitDefEqProofs (maxSteps := 1000000) only [go_sem, ↓reduceIte, Nat.reduceAdd, Nat.reduceSub, Nat.reduceMul, Nat.reduceLT, Nat.reduceLeDiff, Nat.reduceEqDiff, Nat.reduceBEq, Nat.reduceBNe, Int.reduceToNat, Int.reduceLT, Int.reduceLE, Int.reduceNeg, reduceCtorEq, Int.reduceEq, Int.reduceNe]) ?_
        · simp -dsimp -implicitDefEqProofs (maxSteps := 1000000) only [go_sem, ↓reduceIte, Nat.reduceAdd, Nat.reduceSub, Nat.reduceMul, Nat.reduceLT, Nat.reduceLeDiff, Nat.reduceEqDiff, Nat.reduceBEq, Nat.reduceBNe, Int.reduceToNat, Int.reduceLT, Int.reduceLE, Int.reduceNeg, reduceCtorEq, Int.reduceEq, Int.reduceNe]
          exact ⟨renL_F (by simp -dsimp -implicitDefEqProofs (maxSteps := 1000000) only [go_sem, ↓reduceIte, Nat.reduceAdd, Nat.reduceSub, Nat.reduceMul, Nat.reduceLT, Nat.reduceLeDiff, Nat.reduceEqDiff, Nat.reduceBEq, Nat.reduceBNe, Int.reduceToNat, Int.reduceLT, Int.reduceLE, Int.reduceNeg, reduceCtorEq, Int.reduceEq, Int.reduceNe]), renL_cl rfl (clCs _), renL_cl rfl (clCs _)⟩
        · intro n hn
          simp only [List.mem_singleton] at hn
          subst hn
          exact ⟨0, _, _, rfl, rfl, rfl, rfl, rfl, by simp, by simp⟩
  | @right M M2 a b out x ha' hb' h hx ho _ ih =>
    intro K ha hb hK
    have h0 : x.o ≠ 0 := by omega
    have hKl := hK.len
    have hj := (ix_eq ha hb).2
    obtain ⟨j, hjd⟩ : ∃ j, j = ix a b := ⟨_, rfl⟩
    have e1 := ix_wr ha hb
    rw [← hjd] at hj e1
    have hjz : (j : Int) < 65536 := by omega
    have gW := getCs (show j < W.length by omega)
    have gK := getCs (show j < K.length by omega)
    obtain ⟨i, hi, hix, hWi⟩ := hW.yes a b x ha hb hx
    rw [← hjd] at hWi
    have e2 : wr ((i : Int) + 1 - 1) = (i : Int) := by rw [wr_in] <;> omega
    have hiz : (i : Int) < l.length := by omega
    have hi0 : ¬ (i : Int) < 0 := by omega
    have gR : (l.map ruC)[i]? = some (ruC x) := by rw [List.getElem?_map, getR hi, hix]; rfl
    obtain ⟨_, _, hcv⟩ := okCode hv hi
    rw [hix] at hcv
    have hcv := hcv h0
    have hk0 : K.getD j 0 = 0 := by rw [hjd]; exact hK.no a b ha hb h
    have hK1 := hK.put ha hb hx h0 (v := -1) (w := -1) (.inl ⟨rfl, by omega⟩)
    rw [← hjd] at hK1
    obtain ⟨K2, hK2, hout, ic⟩ := ih _ hcv hb hK1
    refine ⟨(K2).set j (if out = -1 then -2 else out + 1), ?_, hout, ?_⟩
    · have h8 := (hK2).put ha hb hx h0 (v := out) (w := if out = -1 then -2 else out + 1) (by
        rcases hout with h9 | h9
        · exact .inl ⟨h9, by rw [if_pos h9]; omega⟩
        · exact .inr ⟨h9, by rw [if_neg]; unfold code at h9; omega⟩)
      rw [← hjd] at h8
      exact h8
    ·
      refine MFun.intro 400 [6] mixed Try.func38 (by kernel_rfl) rfl (by rw [Try.results38]; rfl) (Nat.le_of_ble_eq_true rfl) ?_; rw [Try.ntmps38]
      simp -dsimp -implicitDefEqProofs (maxSteps := 1000000) only [go_sem, ↓reduceIte, Nat.reduceAdd, Nat.reduceSub, Nat.reduceMul, Nat.reduceLT, Nat.reduceLeDiff, Nat.reduceEqDiff, Nat.reduceBEq, Nat.reduceBNe, Int.reduceToNat, Int.reduceLT, Int.reduceLE, Int.reduceNeg, reduceCtorEq, Int.reduceEq, Int.reduceNe, e1, List.length_map, Int.natCast_nonneg, Int.toNat_natCast, hjz, Nat.zero_add, gW, gK, hWi, e2, hiz, hi0, gR, h0, hk0, setCs]
      simp -dsimp -implicitDefEqProofs (maxSteps := 1000000) only [go_sem, ↓reduceIte, Nat.reduceAdd, Nat.reduceSub, Nat.reduceMul, Nat.reduceLT, Nat.reduceLeDiff, Nat.reduceEqDiff, Nat.reduceBEq, Nat.reduceBNe, Int.reduceToNat, Int.reduceLT, Int.reduceLE, Int.reduceNeg, reduceCtorEq, Int.reduceEq, Int.reduceNe, ho, true_implies]
      refine AtFn.le ⟨125, tl [(0, .ptr 0 0 0), (1, I a), (2, I b), (7, I j), (8, I i), (9, I x.v), (92, .ptr 0 0 0), (93, I x.v), (94, I b)], hC l W (K.set j (-1)), 3, ⟨[tl [(0, .ptr 0 0 0)]], some (.mp none)⟩⟩ [.ptr 0 0 0, I x.v, I b] (Le.tl (Ls := [[(0, .ptr 0 0 0)]]) [] (by simp -dsimp -implicitDefEqProofs (maxSteps := 1000000) only [go_sem, ↓reduceIte, Nat.reduceAdd, Nat.reduceSub, Nat.reduceMul, Nat.reduceLT, Nat.reduceLeDiff, Nat.reduceEqDiff, Nat.reduceBEq, Nat.reduceBNe, Int.reduceToNat, Int.reduceLT, Int.reduceLE, Int.reduceNeg, reduceCtorEq, Int.reduceEq, Int.reduceNe]) ?_ (by simp) (by simp [sg]) ⟨by simp -dsimp -implicitDefEqProofs (maxSteps := 1000000) only [go_sem, ↓reduceIte, Nat.reduceAdd, Nat.reduceSub, Nat.reduceMul, Nat.reduceLT, Nat.reduceLeDiff, Nat.reduceEqDiff, Nat.reduceBEq, Nat.reduceBNe, Int.reduceToNat, Int.reduceLT, Int.reduceLE, Int.reduceNeg, reduceCtorEq, Int.reduceEq, Int.reduceNe], trivial⟩)
        (by intro fo xs ts h; cases h; exact ⟨by simp -dsimp -implicitDefEqProofs (maxSteps := 1000000) only [go_sem, ↓reduceIte, Nat.reduceAdd, Nat.reduceSub, Nat.reduceMul, Nat.reduceLT, Nat.reduceLeDiff, Nat.reduceEqDiff, Nat.reduceBEq, Nat.reduceBNe, Int.reduceToNat, Int.reduceLT, Int.reduceLE, Int.reduceNeg, reduceCtorEq, Int.reduceEq, Int.reduceNe], by simp -dsimp -implicitDefEqProofs (maxSteps := 1000000) only [go_sem, ↓reduceIte, Nat.reduceAdd, Nat.reduceSub, Nat.reduceMul, Nat.reduceLT, Nat.reduceLeDiff, Nat.reduceEqDiff, Nat.reduceBEq, Nat.reduceBNe, Int.reduceToNat, Int.reduceLT, Int.reduceLE, Int.reduceNeg, reduceCtorEq, Int.reduceEq, Int.reduceNe]⟩) ?_
      · simp -dsimp -implicitDefEqProofs (maxSteps := 1000000) only [go_sem, ↓reduceIte, Nat.reduceAdd, Nat.reduceSub, Nat.reduceMul, Nat.reduceLT, Nat.reduceLeDiff, Nat.reduceEqDiff, Nat.reduceBEq, Nat.reduceBNe, Int.reduceToNat, Int.reduceLT, Int.reduceLE, Int.reduceNeg, reduceCtorEq, Int.reduceEq, Int.reduceNe]
        exact ⟨renL_F (by simp -dsimp -implicitDefEqProofs (maxSteps := 1000000) only [go_sem, ↓reduceIte, Nat.reduceAdd, Nat.reduceSub, Nat.reduceMul, Nat.reduceLT, Nat.reduceLeDiff, Nat.reduceEqDiff, Nat.reduceBEq, Nat.reduceBNe, Int.reduceToNat, Int.reduceLT, Int.reduceLE, Int.reduceNeg, reduceCtorEq, Int.reduceEq, Int.reduceNe]), renL_cl rfl (clCs _), renL_cl rfl (clCs _)⟩
      refine AtFn.m' (h0 := hC l W (K.set j (-1))) (hr := []) (k' := 3) id ic (MOk.id (Ls := [[(0, .ptr 0 0 0)]]) (by simp) (by simp -dsimp -implicitDefEqProofs (maxSteps := 1000000) only [go_sem, ↓reduceIte, Nat.reduceAdd, Nat.reduceSub, Nat.reduceMul, Nat.reduceLT, Nat.reduceLeDiff, Nat.reduceEqDiff, Nat.reduceBEq, Nat.reduceBNe, Int.reduceToNat, Int.reduceLT, Int.reduceLE, Int.reduceNeg, reduceCtorEq, Int.reduceEq, Int.reduceNe, id_eq]) ?_ (by simp -dsimp -implicitDefEqProofs (maxSteps := 1000000) only [go_sem, ↓reduceIte, Nat.reduceAdd, Nat.reduceSub, Nat.reduceMul, Nat.reduceLT, Nat.reduceLeDiff, Nat.reduceEqDiff, Nat.reduceBEq, Nat.reduceBNe, Int.reduceToNat, Int.reduceLT, Int.reduceLE, Int.reduceNeg, reduceCtorEq, Int.reduceEq, Int.reduceNe, id_eq]) (by simp -dsimp -implicitDefEqProofs (maxSteps := 1000000) only [go_sem, ↓reduceIte, Nat.reduceAdd, Nat.reduceSub, Nat.reduceMul, Nat.reduceLT, Nat.reduceLeDiff, Nat.reduceEqDiff, Nat.reduceBEq, Nat.reduceBNe, Int.reduceToNat, Int.reduceLT, Int.reduceLE, Int.reduceNeg, reduceCtorEq, Int.reduceEq, Int.reduceNe, id_eq]) (by simp) (by simp) ?_ (.cl (.v _)) (by simp) (by simp) (by simp)) ?_
      · simp -dsimp -implicitDefEqProofs (maxSteps := 1000000) only [go_sem, ↓reduceIte, Nat.reduceAdd, Nat.reduceSub, Nat.reduceMul, Nat.reduceLT, Nat.reduceLeDiff, Nat.reduceEqDiff, Nat.reduceBEq, Nat.reduceBNe, Int.reduceToNat, Int.reduceLT, Int.reduceLE, Int.reduceNeg, reduceCtorEq, Int.reduceEq, Int.reduceNe, id_eq]
        exact ⟨renL_F (by simp -dsimp -implicitDefEqProofs (maxSteps := 1000000) only [go_sem, ↓reduceIte, Nat.reduceAdd, Nat.reduceSub, Nat.reduceMul, Nat.reduceLT, Nat.reduceLeDiff, Nat.reduceEqDiff, Nat.reduceBEq, Nat.reduceBNe, Int.reduceToNat, Int.reduceLT, Int.reduceLE, Int.reduceNeg, reduceCtorEq, Int.reduceEq, Int.reduceNe, id_eq]), renL_cl rfl (clCs _), renL_cl rfl (clCs _)⟩
      · simp -dsimp -implicitDefEqProofs (maxSteps := 1000000) only [go_sem, ↓reduceIte, Nat.reduceAdd, Nat.reduceSub, Nat.reduceMul, Nat.reduceLT, Nat.reduceLeDiff, Nat.reduceEqDiff, Nat.reduceBEq, Nat.reduceBNe, Int.reduceToNat, Int.reduceLT, Int.reduceLE, Int.reduceNeg, reduceCtorEq, Int.reduceEq, Int.reduceNe, id_eq]
        exact ⟨renL_F (by simp -dsimp -implicitDefEqProofs (maxSteps := 1000000) only [go_sem, ↓reduceIte, Nat.reduceAdd, Nat.reduceSub, Nat.reduceMul, Nat.reduceLT, Nat.reduceLeDiff, Nat.reduceEqDiff, Nat.reduceBEq, Nat.reduceBNe, Int.reduceToNat, Int.reduceLT, Int.reduceLE, Int.reduceNeg, reduceCtorEq, Int.reduceEq, Int.reduceNe, id_eq]), renL_cl rfl (clCs _), renL_cl rfl (clCs _)⟩
      simp -dsimp -implicitDefEqProofs (maxSteps := 1000000) only [go_sem, ↓reduceIte, Nat.reduceAdd, Nat.reduceSub, Nat.reduceMul, Nat.reduceLT, Nat.reduceLeDiff, Nat.reduceEqDiff, Nat.reduceBEq, Nat.reduceBNe, Int.reduceToNat, Int.reduceLT, Int.reduceLE, Int.reduceNeg, reduceCtorEq, Int.reduceEq, Int.reduceNe]
      have gK9 := getCs (show j < (K2).length by rw [(hK2).len]; exact hj)
      have hKl9 := (hK2).len
      simp -dsimp -implicitDefEqProofs (maxSteps := 1000000) only [go_sem, ↓reduceIte, Nat.reduceAdd, Nat.reduceSub, Nat.reduceMul, Nat.reduceLT, Nat.reduceLeDiff, Nat.reduceEqDiff, Nat.reduceBEq, Nat.reduceBNe, Int.reduceToNat, Int.reduceLT, Int.reduceLE, Int.reduceNeg, reduceCtorEq, Int.reduceEq, Int.reduceNe, hjz, Nat.zero_add, Int.natCast_nonneg, Int.toNat_natCast, gK9, setCs]
      refine ⟨fun h9 => ?_, fun h9 => ?_⟩
      · have h10 : out = -1 := by have := hout; unfold code at this; omega
        have gK8 := getCs (show j < ((K2).set j (wr (out + 1))).length by rw [List.length_set, hKl9]; exact hj)
        simp -dsimp -implicitDefEqProofs (maxSteps := 1000000) only [go_sem, ↓reduceIte, Nat.reduceAdd, Nat.reduceSub, Nat.reduceMul, Nat.reduceLT, Nat.reduceLeDiff, Nat.reduceEqDiff, Nat.reduceBEq, Nat.reduceBNe, Int.reduceToNat, Int.reduceLT, Int.reduceLE, Int.reduceNeg, reduceCtorEq, Int.reduceEq, Int.reduceNe, hjz, Nat.zero_add, Int.natCast_nonneg, Int.toNat_natCast, gK8, setCs]
        rw [if_pos h10, ← set_set (K2) j (wr (out + 1)) (-2)]
        refine FinM.mk [] [(0, .ptr 0 0 0)] (by simp -dsimp -implicitDefEqProofs (maxSteps := 1000000) only [go_sem, ↓reduceIte, Nat.reduceAdd, Nat.reduceSub, Nat.reduceMul, Nat.reduceLT, Nat.reduceLeDiff, Nat.reduceEqDiff, Nat.reduceBEq, Nat.reduceBNe, Int.reduceToNat, Int.reduceLT, Int.reduceLE, Int.reduceNeg, reduceCtorEq, Int.reduceEq, Int.reduceNe]) ?_ (by simp) (by simp [sg]) (by simp -dsimp -implicitDefEqProofs (maxSteps := 1000000) only [go_sem, ↓reduceIte, Nat.reduceAdd, Nat.reduceSub, Nat.reduceMul, Nat.reduceLT, Nat.reduceLeDiff, Nat.reduceEqDiff, Nat.reduceBEq, Nat.reduceBNe, Int.reduceToNat, Int.reduceLT, Int.reduceLE, Int.reduceNeg, reduceCtorEq, Int.reduceEq, Int.reduceNe]) ?_
        · simp -dsimp -implicitDefEqProofs (maxSteps := 1000000) only [go_sem, ↓reduceIte, Nat.reduceAdd, Nat.reduceSub, Nat.reduceMul, Nat.reduceLT, Nat.reduceLeDiff, Nat.reduceEqDiff, Nat.reduceBEq, Nat.reduceBNe, Int.reduceToNat, Int.reduceLT, Int.reduceLE, Int.reduceNeg, reduceCtorEq, Int.reduceEq, Int.reduceNe]
          exact ⟨renL_F (by simp -dsimp -implicitDefEqProofs (maxSteps := 1000000) only [go_sem, ↓reduceIte, Nat.reduceAdd, Nat.reduceSub, Nat.reduceMul, Nat.reduceLT, Nat.reduceLeDiff, Nat.reduceEqDiff, Nat.reduceBEq, Nat.reduceBNe, Int.reduceToNat, Int.reduceLT, Int.reduceLE, Int.reduceNeg, reduceCtorEq, Int.reduceEq, Int.reduceNe]), renL_cl rfl (clCs _), renL_cl rfl (clCs _)⟩
        · intro n hn
          simp only [List.mem_singleton] at hn
          subst hn
          exact ⟨0, _, _, rfl, rfl, rfl, rfl, rfl, by simp, by simp⟩
      · have h10 : ¬ out = -1 := by omega
        have h11 : wr (out + 1) = out + 1 := by have := hout; unfold code at this; rw [wr_in] <;> omega
        rw [if_neg h10, h11]
        refine FinM.mk [] [(0, .ptr 0 0 0)] (by simp -dsimp -implicitDefEqProofs (maxSteps := 1000000) only [go_sem, ↓reduceIte, Nat.reduceAdd, Nat.reduceSub, Nat.reduceMul, Nat.reduceLT, Nat.reduceLeDiff, Nat.reduceEqDiff, Nat.reduceBEq, Nat.reduceBNe, Int.reduceToNat, Int.reduceLT, Int.reduceLE, Int.reduceNeg, reduceCtorEq, Int.reduceEq, Int.reduceNe]) ?_ (by simp) (by simp [sg]) (by simp -dsimp -implicitDefEqProofs (maxSteps := 1000000) only [go_sem, ↓reduceIte, Nat.reduceAdd, Nat.reduceSub, Nat.reduceMul, Nat.reduceLT, Nat.reduceLeDiff, Nat.reduceEqDiff, Nat.reduceBEq, Nat.reduceBNe, Int.reduceToNat, Int.reduceLT, Int.reduceLE, Int.reduceNeg, reduceCtorEq, Int.reduceEq, Int.reduceNe]) ?_
        · simp -dsimp -implicitDefEqProofs (maxSteps := 1000000) only [go_sem, ↓reduceIte, Nat.reduceAdd, Nat.reduceSub, Nat.reduceMul, Nat.reduceLT, Nat.reduceLeDiff, Nat.reduceEqDiff, Nat.reduceBEq, Nat.reduceBNe, Int.reduceToNat, Int.reduceLT, Int.reduceLE, Int.reduceNeg, reduceCtorEq, Int.reduceEq, Int.reduceNe]
          exact ⟨renL_F (by simp -dsimp -implicitDefEqProofs (maxSteps := 1000000) only [go_sem, ↓reduceIte, Nat.reduceAdd, Nat.reduceSub, Nat.reduceMul, Nat.reduceLT, Nat.reduceLeDiff, Nat.reduceEqDiff, Nat.reduceBEq, Nat.reduceBNe, Int.reduceToNat, Int.reduceLT, Int.reduceLE, Int.reduceNeg, reduceCtorEq, Int.reduceEq, Int.reduceNe]), renL_cl rfl (clCs _), renL_cl rfl (clCs _)⟩
        · intro n hn
          simp only [List.mem_singleton] at hn
          subst hn
          exact ⟨0, _, _, rfl, rfl, rfl, rfl, rfl, by simp, by simp⟩
  | @both M M2 M3 a b o1 out x ha' hb' h hx ho _ hd2 ih ih2 =>
    intro K ha hb hK
    have h0 : x.o ≠ 0 := by omega
    have hKl := hK.len
    have hj := (ix_eq ha hb).2
    obtain ⟨j, hjd⟩ : ∃ j, j = ix a b := ⟨_, rfl⟩
    have e1 := ix_wr ha hb
    rw [← hjd] at hj e1
    have hjz : (j : Int) < 65536 := by omega
    have gW := getCs (show j < W.length by omega)
    have gK := getCs (show j < K.length by omega)
    obtain ⟨i, hi, hix, hWi⟩ := hW.yes a b x ha hb hx
    rw [← hjd] at hWi
    have e2 : wr ((i : Int) + 1 - 1) = (i : Int) := by rw [wr_in] <;> omega
    have hiz : (i : Int) < l.length := by omega
    have hi0 : ¬ (i : Int) < 0 := by omega
    have gR : (l.map ruC)[i]? = some (ruC x) := by rw [List.getElem?_map, getR hi, hix]; rfl
    obtain ⟨_, _, hcv⟩ := okCode hv hi
    rw [hix] at hcv
    have hcv := hcv h0
    have hk0 : K.getD j 0 = 0 := by rw [hjd]; exact hK.no a b ha hb h
    have hK1 := hK.put ha hb hx h0 (v := -1) (w := -1) (.inl ⟨rfl, by omega⟩)
    rw [← hjd] at hK1
    obtain ⟨K2, hK2, hout1, ic⟩ := ih _ ha hcv hK1
    by_cases ho1 : o1 = -1
    · have hq : out = o1 ∧ M3 = M2 := by
        subst ho1
        cases hd2 with
        | loop _ => exact ⟨rfl, rfl⟩
        | memo q _ _ => exact absurd rfl q
        | kern q _ _ _ => exact absurd rfl q
        | one q _ _ _ _ => exact absurd rfl q
        | left q _ _ _ _ _ => exact absurd rfl q
        | right q _ _ _ _ _ => exact absurd rfl q
        | both q _ _ _ _ _ _ => exact absurd rfl q
      obtain ⟨hq1, hq2⟩ := hq
      rw [hq1, hq2]
      have hge : ¬ 0 ≤ o1 := by omega
      refine ⟨(K2).set j (if o1 = -1 then -2 else o1 + 1), ?_, hout1, ?_⟩
      · have h8 := (hK2).put ha hb hx h0 (v := o1) (w := if o1 = -1 then -2 else o1 + 1) (by
          rcases hout1 with h9 | h9
          · exact .inl ⟨h9, by rw [if_pos h9]; omega⟩
          · exact .inr ⟨h9, by rw [if_neg]; unfold code at h9; omega⟩)
        rw [← hjd] at h8
        exact h8
      ·
        refine MFun.intro 400 [6] mixed Try.func38 (by kernel_rfl) rfl (by rw [Try.results38]; rfl) (Nat.le_of_ble_eq_true rfl) ?_; rw [Try.ntmps38]
        simp -dsimp -implicitDefEqProofs (maxSteps := 1000000) only [go_sem, ↓reduceIte, Nat.reduceAdd, Nat.reduceSub, Nat.reduceMul, Nat.reduceLT, Nat.reduceLeDiff, Nat.reduceEqDiff, Nat.reduceBEq, Nat.reduceBNe, Int.reduceToNat, Int.reduceLT, Int.reduceLE, Int.reduceNeg, reduceCtorEq, Int.reduceEq, Int.reduceNe, e1, List.length_map, Int.natCast_nonneg, Int.toNat_natCast, hjz, Nat.zero_add, gW, gK, hWi, e2, hiz, hi0, gR, h0, hk0, setCs]
        simp -dsimp -implicitDefEqProofs (maxSteps := 1000000) only [go_sem, ↓reduceIte, Nat.reduceAdd, Nat.reduceSub, Nat.reduceMul, Nat.reduceLT, Nat.reduceLeDiff, Nat.reduceEqDiff, Nat.reduceBEq, Nat.reduceBNe, Int.reduceToNat, Int.reduceLT, Int.reduceLE, Int.reduceNeg, reduceCtorEq, Int.reduceEq, Int.reduceNe, ho, true_implies]
        refine AtFn.le ⟨125, tl [(0, .ptr 0 0 0), (1, I a), (2, I b), (7, I j), (8, I i), (9, I x.v), (98, .ptr 0 0 0), (99, I a), (100, I x.v)], hC l W (K.set j (-1)), 3, ⟨[tl [(0, .ptr 0 0 0)]], some (.mp none)⟩⟩ [.ptr 0 0 0, I a, I x.v] (Le.tl (Ls := [[(0, .ptr 0 0 0)]]) [] (by simp -dsimp -implicitDefEqProofs (maxSteps := 1000000) only [go_sem, ↓reduceIte, Nat.reduceAdd, Nat.reduceSub, Nat.reduceMul, Nat.reduceLT, Nat.reduceLeDiff, Nat.reduceEqDiff, Nat.reduceBEq, Nat.reduceBNe, Int.reduceToNat, Int.reduceLT, Int.reduceLE, Int.reduceNeg, reduceCtorEq, Int.reduceEq, Int.reduceNe]) ?_ (by simp) (by simp [sg]) ⟨by simp -dsimp -implicitDefEqProofs (maxSteps := 1000000) only [go_sem, ↓reduceIte, Nat.reduceAdd, Nat.reduceSub, Nat.reduceMul, Nat.reduceLT, Nat.reduceLeDiff, Nat.reduceEqDiff, Nat.reduceBEq, Nat.reduceBNe, Int.reduceToNat, Int.reduceLT, Int.reduceLE, Int.reduceNeg, reduceCtorEq, Int.reduceEq, Int.reduceNe], trivial⟩)
          (by intro fo xs ts h; cases h; exact ⟨by simp -dsimp -implicitDefEqProofs (maxSteps := 1000000) only [go_sem, ↓reduceIte, Nat.reduceAdd, Nat.reduceSub, Nat.reduceMul, Nat.reduceLT, Nat.reduceLeDiff, Nat.reduceEqDiff, Nat.reduceBEq, Nat.reduceBNe, Int.reduceToNat, Int.reduceLT, Int.reduceLE, Int.reduceNeg, reduceCtorEq, Int.reduceEq, Int.reduceNe], by simp -dsimp -implicitDefEqProofs (maxSteps := 1000000) only [go_sem, ↓reduceIte, Nat.reduceAdd, Nat.reduceSub, Nat.reduceMul, Nat.reduceLT, Nat.reduceLeDiff, Nat.reduceEqDiff, Nat.reduceBEq, Nat.reduceBNe, Int.reduceToNat, Int.reduceLT, Int.reduceLE, Int.reduceNeg, reduceCtorEq, Int.reduceEq, Int.reduceNe]⟩) ?_
        · simp -dsimp -implicitDefEqProofs (maxSteps := 1000000) only [go_sem, ↓reduceIte, Nat.reduceAdd, Nat.reduceSub, Nat.reduceMul, Nat.reduceLT, Nat.reduceLeDiff, Nat.reduceEqDiff, Nat.reduceBEq, Nat.reduceBNe, Int.reduceToNat, Int.reduceLT, Int.reduceLE, Int.reduceNeg, reduceCtorEq, Int.reduceEq, Int.reduceNe]
          exact ⟨renL_F (by simp -dsimp -implicitDefEqProofs (maxSteps := 1000000) only [go_sem, ↓reduceIte, Nat.reduceAdd, Nat.reduceSub, Nat.reduceMul, Nat.reduceLT, Nat.reduceLeDiff, Nat.reduceEqDiff, Nat.reduceBEq, Nat.reduceBNe, Int.reduceToNat, Int.reduceLT, Int.reduceLE, Int.reduceNeg, reduceCtorEq, Int.reduceEq, Int.reduceNe]), renL_cl rfl (clCs _), renL_cl rfl (clCs _)⟩
        refine AtFn.m' (h0 := hC l W (K.set j (-1))) (hr := []) (k' := 3) id ic (MOk.id (Ls := [[(0, .ptr 0 0 0)]]) (by simp) (by simp -dsimp -implicitDefEqProofs (maxSteps := 1000000) only [go_sem, ↓reduceIte, Nat.reduceAdd, Nat.reduceSub, Nat.reduceMul, Nat.reduceLT, Nat.reduceLeDiff, Nat.reduceEqDiff, Nat.reduceBEq, Nat.reduceBNe, Int.reduceToNat, Int.reduceLT, Int.reduceLE, Int.reduceNeg, reduceCtorEq, Int.reduceEq, Int.reduceNe, id_eq]) ?_ (by simp -dsimp -implicitDefEqProofs (maxSteps := 1000000) only [go_sem, ↓reduceIte, Nat.reduceAdd, Nat.reduceSub, Nat.reduceMul, Nat.reduceLT, Nat.reduceLeDiff, Nat.reduceEqDiff, Nat.reduceBEq, Nat.reduceBNe, Int.reduceToNat, Int.reduceLT, Int.reduceLE, Int.reduceNeg, reduceCtorEq, Int.reduceEq, Int.reduceNe, id_eq]) (by simp -dsimp -implicitDefEqProofs (maxSteps := 1000000) only [go_sem, ↓reduceIte, Nat.reduceAdd, Nat.reduceSub, Nat.reduceMul, Nat.reduceLT, Nat.reduceLeDiff, Nat.reduceEqDiff, Nat.reduceBEq, Nat.reduceBNe, Int.reduceToNat, Int.reduceLT, Int.reduceLE, Int.reduceNeg, reduceCtorEq, Int.reduceEq, Int.reduceNe, id_eq]) (by simp) (by simp) ?_ (.cl (.v _)) (by simp) (by simp) (by simp)) ?_
        · simp -dsimp -implicitDefEqProofs (maxSteps := 1000000) only [go_sem, ↓reduceIte, Nat.reduceAdd, Nat.reduceSub, Nat.reduceMul, Nat.reduceLT, Nat.reduceLeDiff, Nat.reduceEqDiff, Nat.reduceBEq, Nat.reduceBNe, Int.reduceToNat, Int.reduceLT, Int.reduceLE, Int.reduceNeg, reduceCtorEq, Int.reduceEq, Int.reduceNe, id_eq]
          exact ⟨renL_F (by simp -dsimp -implicitDefEqProofs (maxSteps := 1000000) only [go_sem, ↓reduceIte, Nat.reduceAdd, Nat.reduceSub, Nat.reduceMul, Nat.reduceLT, Nat.reduceLeDiff, Nat.reduceEqDiff, Nat.reduceBEq, Nat.reduceBNe, Int.reduceToNat, Int.reduceLT, Int.reduceLE, Int.reduceNeg, reduceCtorEq, Int.reduceEq, Int.reduceNe, id_eq]), renL_cl rfl (clCs _), renL_cl rfl (clCs _)⟩
        · simp -dsimp -implicitDefEqProofs (maxSteps := 1000000) only [go_sem, ↓reduceIte, Nat.reduceAdd, Nat.reduceSub, Nat.reduceMul, Nat.reduceLT, Nat.reduceLeDiff, Nat.reduceEqDiff, Nat.reduceBEq, Nat.reduceBNe, Int.reduceToNat, Int.reduceLT, Int.reduceLE, Int.reduceNeg, reduceCtorEq, Int.reduceEq, Int.reduceNe, id_eq]
          exact ⟨renL_F (by simp -dsimp -implicitDefEqProofs (maxSteps := 1000000) only [go_sem, ↓reduceIte, Nat.reduceAdd, Nat.reduceSub, Nat.reduceMul, Nat.reduceLT, Nat.reduceLeDiff, Nat.reduceEqDiff, Nat.reduceBEq, Nat.reduceBNe, Int.reduceToNat, Int.reduceLT, Int.reduceLE, Int.reduceNeg, reduceCtorEq, Int.reduceEq, Int.reduceNe, id_eq]), renL_cl rfl (clCs _), renL_cl rfl (clCs _)⟩
        simp -dsimp -implicitDefEqProofs (maxSteps := 1000000) only [go_sem, ↓reduceIte, Nat.reduceAdd, Nat.reduceSub, Nat.reduceMul, Nat.reduceLT, Nat.reduceLeDiff, Nat.reduceEqDiff, Nat.reduceBEq, Nat.reduceBNe, Int.reduceToNat, Int.reduceLT, Int.reduceLE, Int.reduceNeg, reduceCtorEq, Int.reduceEq, Int.reduceNe, hge]
        have gK9 := getCs (show j < (K2).length by rw [(hK2).len]; exact hj)
        have hKl9 := (hK2).len
        simp -dsimp -implicitDefEqProofs (maxSteps := 1000000) only [go_sem, ↓reduceIte, Nat.reduceAdd, Nat.reduceSub, Nat.reduceMul, Nat.reduceLT, Nat.reduceLeDiff, Nat.reduceEqDiff, Nat.reduceBEq, Nat.reduceBNe, Int.reduceToNat, Int.reduceLT, Int.reduceLE, Int.reduceNeg, reduceCtorEq, Int.reduceEq, Int.reduceNe, hjz, Nat.zero_add, Int.natCast_nonneg, Int.toNat_natCast, gK9, setCs]
        refine ⟨fun h9 => ?_, fun h9 => ?_⟩
        · have h10 : o1 = -1 := by have := hout1; unfold code at this; omega
          have gK8 := getCs (show j < ((K2).set j (wr (o1 + 1))).length by rw [List.length_set, hKl9]; exact hj)
          simp -dsimp -implicitDefEqProofs (maxSteps := 1000000) only [go_sem, ↓reduceIte, Nat.reduceAdd, Nat.reduceSub, Nat.reduceMul, Nat.reduceLT, Nat.reduceLeDiff, Nat.reduceEqDiff, Nat.reduceBEq, Nat.reduceBNe, Int.reduceToNat, Int.reduceLT, Int.reduceLE, Int.reduceNeg, reduceCtorEq, Int.reduceEq, Int.reduceNe, hjz, Nat.zero_add, Int.natCast_nonneg, Int.toNat_natCast, gK8, setCs]
          rw [if_pos h10, ← set_set (K2) j (wr (o1 + 1)) (-2)]
          refine FinM.mk [] [(0, .ptr 0 0 0)] (by simp -dsimp -implicitDefEqProofs (maxSteps := 1000000) only [go_sem, ↓reduceIte, Nat.reduceAdd, Nat.reduceSub, Nat.reduceMul, Nat.reduceLT, Nat.reduceLeDiff, Nat.reduceEqDiff, Nat.reduceBEq, Nat.reduceBNe, Int.reduceToNat, Int.reduceLT, Int.reduceLE, Int.reduceNeg, reduceCtorEq, Int.reduceEq, Int.reduceNe]) ?_ (by simp) (by simp [sg]) (by simp -dsimp -implicitDefEqProofs (maxSteps := 1000000) only [go_sem, ↓reduceIte, Nat.reduceAdd, Nat.reduceSub, Nat.reduceMul, Nat.reduceLT, Nat.reduceLeDiff, Nat.reduceEqDiff, Nat.reduceBEq, Nat.reduceBNe, Int.reduceToNat, Int.reduceLT, Int.reduceLE, Int.reduceNeg, reduceCtorEq, Int.reduceEq, Int.reduceNe]) ?_
          · simp -dsimp -implicitDefEqProofs (maxSteps := 1000000) only [go_sem, ↓reduceIte, Nat.reduceAdd, Nat.reduceSub, Nat.reduceMul, Nat.reduceLT, Nat.reduceLeDiff, Nat.reduceEqDiff, Nat.reduceBEq, Nat.reduceBNe, Int.reduceToNat, Int.reduceLT, Int.reduceLE, Int.reduceNeg, reduceCtorEq, Int.reduceEq, Int.reduceNe]
            exact ⟨renL_F (by simp -dsimp -implicitDefEqProofs (maxSteps := 1000000) only [go_sem, ↓reduceIte, Nat.reduceAdd, Nat.reduceSub, Nat.reduceMul, Nat.reduceLT, Nat.reduceLeDiff, Nat.reduceEqDiff, Nat.reduceBEq, Nat.reduceBNe, Int.reduceToNat, Int.reduceLT, Int.reduceLE, Int.reduceNeg, reduceCtorEq, Int.reduceEq, Int.reduceNe]), renL_cl rfl (clCs _), renL_cl rfl (clCs _)⟩
          · intro n hn
            simp only [List.mem_singleton] at hn
            subst hn
            exact ⟨0, _, _, rfl, rfl, rfl, rfl, rfl, by simp, by simp⟩
        · have h10 : ¬ o1 = -1 := by omega
          have h11 : wr (o1 + 1) = o1 + 1 := by have := hout1; unfold code at this; rw [wr_in] <;> omega
          rw [if_neg h10, h11]
          refine FinM.mk [] [(0, .ptr 0 0 0)] (by simp -dsimp -implicitDefEqProofs (maxSteps := 1000000) only [go_sem, ↓reduceIte, Nat.reduceAdd, Nat.reduceSub, Nat.reduceMul, Nat.reduceLT, Nat.reduceLeDiff, Nat.reduceEqDiff, Nat.reduceBEq, Nat.reduceBNe, Int.reduceToNat, Int.reduceLT, Int.reduceLE, Int.reduceNeg, reduceCtorEq, Int.reduceEq, Int.reduceNe]) ?_ (by simp) (by simp [sg]) (by simp -dsimp -implicitDefEqProofs (maxSteps := 1000000) only [go_sem, ↓reduceIte, Nat.reduceAdd, Nat.reduceSub, Nat.reduceMul, Nat.reduceLT, Nat.reduceLeDiff, Nat.reduceEqDiff, Nat.reduceBEq, Nat.reduceBNe, Int.reduceToNat, Int.reduceLT, Int.reduceLE, Int.reduceNeg, reduceCtorEq, Int.reduceEq, Int.reduceNe]) ?_
          · simp -dsimp -implicitDefEqProofs (maxSteps := 1000000) only [go_sem, ↓reduceIte, Nat.reduceAdd, Nat.reduceSub, Nat.reduceMul, Nat.reduceLT, Nat.reduceLeDiff, Nat.reduceEqDiff, Nat.reduceBEq, Nat.reduceBNe, Int.reduceToNat, Int.reduceLT, Int.reduceLE, Int.reduceNeg, reduceCtorEq, Int.reduceEq, Int.reduceNe]
            exact ⟨renL_F (by simp -dsimp -implicitDefEqProofs (maxSteps := 1000000) only [go_sem, ↓reduceIte, Nat.reduceAdd, Nat.reduceSub, Nat.reduceMul, Nat.reduceLT, Nat.reduceLeDiff, Nat.reduceEqDiff, Nat.reduceBEq, Nat.reduceBNe, Int.reduceToNat, Int.reduceLT, Int.reduceLE, Int.reduceNeg, reduceCtorEq, Int.reduceEq, Int.reduceNe]), renL_cl rfl (clCs _), renL_cl rfl (clCs _)⟩
          · intro n hn
            simp only [List.mem_singleton] at hn
            subst hn
            exact ⟨0, _, _, rfl, rfl, rfl, rfl, rfl, by simp, by simp⟩
    · have hc1 : code o1 := hout1.resolve_left ho1
      have hge : 0 ≤ o1 := hc1.1
      obtain ⟨K3, hK3, hout, ic2⟩ := ih2 _ hc1 hb hK2
      refine ⟨(K3).set j (if out = -1 then -2 else out + 1), ?_, hout, ?_⟩
      · have h8 := (hK3).put ha hb hx h0 (v := out) (w := if out = -1 then -2 else out + 1) (by
          rcases hout with h9 | h9
          · exact .inl ⟨h9, by rw [if_pos h9]; omega⟩
          · exact .inr ⟨h9, by rw [if_neg]; unfold code at h9; omega⟩)
        rw [← hjd] at h8
        exact h8
      ·
        refine MFun.intro 400 [6] mixed Try.func38 (by kernel_rfl) rfl (by rw [Try.results38]; rfl) (Nat.le_of_ble_eq_true rfl) ?_; rw [Try.ntmps38]
        simp -dsimp -implicitDefEqProofs (maxSteps := 1000000) only [go_sem, ↓reduceIte, Nat.reduceAdd, Nat.reduceSub, Nat.reduceMul, Nat.reduceLT, Nat.reduceLeDiff, Nat.reduceEqDiff, Nat.reduceBEq, Nat.reduceBNe, Int.reduceToNat, Int.reduceLT, Int.reduceLE, Int.reduceNeg, reduceCtorEq, Int.reduceEq, Int.reduceNe, e1, List.length_map, Int.natCast_nonneg, Int.toNat_natCast, hjz, Nat.zero_add, gW, gK, hWi, e2, hiz, hi0, gR, h0, hk0, setCs]
        simp -dsimp -implicitDefEqProofs (maxSteps := 1000000) only [go_sem, ↓reduceIte, Nat.reduceAdd, Nat.reduceSub, Nat.reduceMul, Nat.reduceLT, Nat.reduceLeDiff, Nat.reduceEqDiff, Nat.reduceBEq, Nat.reduceBNe, Int.reduceToNat, Int.reduceLT, Int.reduceLE, Int.reduceNeg, reduceCtorEq, Int.reduceEq, Int.reduceNe, ho, true_implies]
        refine AtFn.le ⟨125, tl [(0, .ptr 0 0 0), (1, I a), (2, I b), (7, I j), (8, I i), (9, I x.v), (98, .ptr 0 0 0), (99, I a), (100, I x.v)], hC l W (K.set j (-1)), 3, ⟨[tl [(0, .ptr 0 0 0)]], some (.mp none)⟩⟩ [.ptr 0 0 0, I a, I x.v] (Le.tl (Ls := [[(0, .ptr 0 0 0)]]) [] (by simp -dsimp -implicitDefEqProofs (maxSteps := 1000000) only [go_sem, ↓reduceIte, Nat.reduceAdd, Nat.reduceSub, Nat.reduceMul, Nat.reduceLT, Nat.reduceLeDiff, Nat.reduceEqDiff, Nat.reduceBEq, Nat.reduceBNe, Int.reduceToNat, Int.reduceLT, Int.reduceLE, Int.reduceNeg, reduceCtorEq, Int.reduceEq, Int.reduceNe]) ?_ (by simp) (by simp [sg]) ⟨by simp -dsimp -implicitDefEqProofs (maxSteps := 1000000) only [go_sem, ↓reduceIte, Nat.reduceAdd, Nat.reduceSub, Nat.reduceMul, Nat.reduceLT, Nat.reduceLeDiff, Nat.reduceEqDiff, Nat.reduceBEq, Nat.reduceBNe, Int.reduceToNat, Int.reduceLT, Int.reduceLE, Int.reduceNeg, reduceCtorEq, Int.reduceEq, Int.reduceNe], trivial⟩)
          (by intro fo xs ts h; cases h; exact ⟨by simp -dsimp -implicitDefEqProofs (maxSteps := 1000000) only [go_sem, ↓reduceIte, Nat.reduceAdd, Nat.reduceSub, Nat.reduceMul, Nat.reduceLT, Nat.reduceLeDiff, Nat.reduceEqDiff, Nat.reduceBEq, Nat.reduceBNe, Int.reduceToNat, Int.reduceLT, Int.reduceLE, Int.reduceNeg, reduceCtorEq, Int.reduceEq, Int.reduceNe], by simp -dsimp -implicitDefEqProofs (maxSteps := 1000000) only [go_sem, ↓reduceIte, Nat.reduceAdd, Nat.reduceSub, Nat.reduceMul, Nat.reduceLT, Nat.reduceLeDiff, Nat.reduceEqDiff, Nat.reduceBEq, Nat.reduceBNe, Int.reduceToNat, Int.reduceLT, Int.reduceLE, Int.reduceNeg, reduceCtorEq, Int.reduceEq, Int.reduceNe]⟩) ?_
        · simp -dsimp -implicitDefEqProofs (maxSteps := 1000000) only [go_sem, ↓reduceIte, Nat.reduceAdd, Nat.reduceSub, Nat.reduceMul, Nat.reduceLT, Nat.reduceLeDiff, Nat.reduceEqDiff, Nat.reduceBEq, Nat.reduceBNe, Int.reduceToNat, Int.reduceLT, Int.reduceLE, Int.reduceNeg, reduceCtorEq, Int.reduceEq, Int.reduceNe]
          exact ⟨renL_F (by simp -dsimp -implicitDefEqProofs (maxSteps := 1000000) only [go_sem, ↓reduceIte, Nat.reduceAdd, Nat.reduceSub, Nat.reduceMul, Nat.reduceLT, Nat.reduceLeDiff, Nat.reduceEqDiff, Nat.reduceBEq, Nat.reduceBNe, Int.reduceToNat, Int.reduceLT, Int.reduceLE, Int.reduceNeg, reduceCtorEq, Int.reduceEq, Int.reduceNe]), renL_cl rfl (clCs _), renL_cl rfl (clCs _)⟩
        refine AtFn.m' (h0 := hC l W (K.set j (-1))) (hr := []) (k' := 3) id ic (MOk.id (Ls := [[(0, .ptr 0 0 0)]]) (by simp) (by simp -dsimp -implicitDefEqProofs (maxSteps := 1000000) only [go_sem, ↓reduceIte, Nat.reduceAdd, Nat.reduceSub, Nat.reduceMul, Nat.reduceLT, Nat.reduceLeDiff, Nat.reduceEqDiff, Nat.reduceBEq, Nat.reduceBNe, Int.reduceToNat, Int.reduceLT, Int.reduceLE, Int.reduceNeg, reduceCtorEq, Int.reduceEq, Int.reduceNe, id_eq]) ?_ (by simp -dsimp -implicitDefEqProofs (maxSteps := 1000000) only [go_sem, ↓reduceIte, Nat.reduceAdd, Nat.reduceSub, Nat.reduceMul, Nat.reduceLT, Nat.reduceLeDiff, Nat.reduceEqDiff, Nat.reduceBEq, Nat.reduceBNe, Int.reduceToNat, Int.reduceLT, Int.reduceLE, Int.reduceNeg, reduceCtorEq, Int.reduceEq, Int.reduceNe, id_eq]) (by simp -dsimp -implicitDefEqProofs (maxSteps := 1000000) only [go_sem, ↓reduceIte, Nat.reduceAdd, Nat.reduceSub, Nat.reduceMul, Nat.reduceLT, Nat.reduceLeDiff, Nat.reduceEqDiff, Nat.reduceBEq, Nat.reduceBNe, Int.reduceToNat, Int.reduceLT, Int.reduceLE, Int.reduceNeg, reduceCtorEq, Int.reduceEq, Int.reduceNe, id_eq]) (by simp) (by simp) ?_ (.cl (.v _)) (by simp) (by simp) (by simp)) ?_
        · simp -dsimp -implicitDefEqProofs (maxSteps := 1000000) only [go_sem, ↓reduceIte, Nat.reduceAdd, Nat.reduceSub, Nat.reduceMul, Nat.reduceLT, Nat.reduceLeDiff, Nat.reduceEqDiff, Nat.reduceBEq, Nat.reduceBNe, Int.reduceToNat, Int.reduceLT, Int.reduceLE, Int.reduceNeg, reduceCtorEq, Int.reduceEq, Int.reduceNe, id_eq]
          exact ⟨renL_F (by simp -dsimp -implicitDefEqProofs (maxSteps := 1000000) only [go_sem, ↓reduceIte, Nat.reduceAdd, Nat.reduceSub, Nat.reduceMul, Nat.reduceLT, Nat.reduceLeDiff, Nat.reduceEqDiff, Nat.reduceBEq, Nat.reduceBNe, Int.reduceToNat, Int.reduceLT, Int.reduceLE, Int.reduceNeg, reduceCtorEq, Int.reduceEq, Int.reduceNe, id_eq]), renL_cl rfl (clCs _), renL_cl rfl (clCs _)⟩
        · simp -dsimp -implicitDefEqProofs (maxSteps := 1000000) only [go_sem, ↓reduceIte, Nat.reduceAdd, Nat.reduceSub, Nat.reduceMul, Nat.reduceLT, Nat.reduceLeDiff, Nat.reduceEqDiff, Nat.reduceBEq, Nat.reduceBNe, Int.reduceToNat, Int.reduceLT, Int.reduceLE, Int.reduceNeg, reduceCtorEq, Int.reduceEq, Int.reduceNe, id_eq]
          exact ⟨renL_F (by simp -dsimp -implicitDefEqProofs (maxSteps := 1000000) only [go_sem, ↓reduceIte, Nat.reduceAdd, Nat.reduceSub, Nat.reduceMul, Nat.reduceLT, Nat.reduceLeDiff, Nat.reduceEqDiff, Nat.reduceBEq, Nat.reduceBNe, Int.reduceToNat, Int.reduceLT, Int.reduceLE, Int.reduceNeg, reduceCtorEq, Int.reduceEq, Int.reduceNe, id_eq]), renL_cl rfl (clCs _), renL_cl rfl (clCs _)⟩
        simp -dsimp -implicitDefEqProofs (maxSteps := 1000000) only [go_sem, ↓reduceIte, Nat.reduceAdd, Nat.reduceSub, Nat.reduceMul, Nat.reduceLT, Nat.reduceLeDiff, Nat.reduceEqDiff, Nat.reduceBEq, Nat.reduceBNe, Int.reduceToNat, Int.reduceLT, Int.reduceLE, Int.reduceNeg, reduceCtorEq, Int.reduceEq, Int.reduceNe, hge, true_implies]
        refine AtFn.le ⟨125, tl [(0, .ptr 0 0 0), (1, I a), (2, I b), (7, I j), (8, I i), (9, I x.v), (104, .ptr 0 0 0), (105, I o1), (106, I b)], hC l W K2, 3, ⟨[tl [(0, .ptr 0 0 0)]], some (.mp none)⟩⟩ [.ptr 0 0 0, I o1, I b] (Le.tl (Ls := [[(0, .ptr 0 0 0)]]) [] (by simp -dsimp -implicitDefEqProofs (maxSteps := 1000000) only [go_sem, ↓reduceIte, Nat.reduceAdd, Nat.reduceSub, Nat.reduceMul, Nat.reduceLT, Nat.reduceLeDiff, Nat.reduceEqDiff, Nat.reduceBEq, Nat.reduceBNe, Int.reduceToNat, Int.reduceLT, Int.reduceLE, Int.reduceNeg, reduceCtorEq, Int.reduceEq, Int.reduceNe]) ?_ (by simp) (by simp [sg]) ⟨by simp -dsimp -implicitDefEqProofs (maxSteps := 1000000) only [go_sem, ↓reduceIte, Nat.reduceAdd, Nat.reduceSub, Nat.reduceMul, Nat.reduceLT, Nat.reduceLeDiff, Nat.reduceEqDiff, Nat.reduceBEq, Nat.reduceBNe, Int.reduceToNat, Int.reduceLT, Int.reduceLE, Int.reduceNeg, reduceCtorEq, Int.reduceEq, Int.reduceNe], trivial⟩)
          (by intro fo xs ts h; cases h; exact ⟨by simp -dsimp -implicitDefEqProofs (maxSteps := 1000000) only [go_sem, ↓reduceIte, Nat.reduceAdd, Nat.reduceSub, Nat.reduceMul, Nat.reduceLT, Nat.reduceLeDiff, Nat.reduceEqDiff, Nat.reduceBEq, Nat.reduceBNe, Int.reduceToNat, Int.reduceLT, Int.reduceLE, Int.reduceNeg, reduceCtorEq, Int.reduceEq, Int.reduceNe], by simp -dsimp -implicitDefEqProofs (maxSteps := 1000000) only [go_sem, ↓reduceIte, Nat.reduceAdd, Nat.reduceSub, Nat.reduceMul, Nat.reduceLT, Nat.reduceLeDiff, Nat.reduceEqDiff, Nat.reduceBEq, Nat.reduceBNe, Int.reduceToNat, Int.reduceLT, Int.reduceLE, Int.reduceNeg, reduceCtorEq, Int.reduceEq, Int.reduceNe]⟩) ?_
        · simp -dsimp -implicitDefEqProofs (maxSteps := 1000000) only [go_sem, ↓reduceIte, Nat.reduceAdd, Nat.reduceSub, Nat.reduceMul, Nat.reduceLT, Nat.reduceLeDiff, Nat.reduceEqDiff, Nat.reduceBEq, Nat.reduceBNe, Int.reduceToNat, Int.reduceLT, Int.reduceLE, Int.reduceNeg, reduceCtorEq, Int.reduceEq, Int.reduceNe]
          exact ⟨renL_F (by simp -dsimp -implicitDefEqProofs (maxSteps := 1000000) only [go_sem, ↓reduceIte, Nat.reduceAdd, Nat.reduceSub, Nat.reduceMul, Nat.reduceLT, Nat.reduceLeDiff, Nat.reduceEqDiff, Nat.reduceBEq, Nat.reduceBNe, Int.reduceToNat, Int.reduceLT, Int.reduceLE, Int.reduceNeg, reduceCtorEq, Int.reduceEq, Int.reduceNe]), renL_cl rfl (clCs _), renL_cl rfl (clCs _)⟩
        refine AtFn.m' (h0 := hC l W K2) (hr := []) (k' := 3) id ic2 (MOk.id (Ls := [[(0, .ptr 0 0 0)]]) (by simp) (by simp -dsimp -implicitDefEqProofs (maxSteps := 1000000) only [go_sem, ↓reduceIte, Nat.reduceAdd, Nat.reduceSub, Nat.reduceMul, Nat.reduceLT, Nat.reduceLeDiff, Nat.reduceEqDiff, Nat.reduceBEq, Nat.reduceBNe, Int.reduceToNat, Int.reduceLT, Int.reduceLE, Int.reduceNeg, reduceCtorEq, Int.reduceEq, Int.reduceNe, id_eq]) ?_ (by simp -dsimp -implicitDefEqProofs (maxSteps := 1000000) only [go_sem, ↓reduceIte, Nat.reduceAdd, Nat.reduceSub, Nat.reduceMul, Nat.reduceLT, Nat.reduceLeDiff, Nat.reduceEqDiff, Nat.reduceBEq, Nat.reduceBNe, Int.reduceToNat, Int.reduceLT, Int.reduceLE, Int.reduceNeg, reduceCtorEq, Int.reduceEq, Int.reduceNe, id_eq]) (by simp -dsimp -implicitDefEqProofs (maxSteps := 1000000) only [go_sem, ↓reduceIte, Nat.reduceAdd, Nat.reduceSub, Nat.reduceMul, Nat.reduceLT, Nat.reduceLeDiff, Nat.reduceEqDiff, Nat.reduceBEq, Nat.reduceBNe, Int.reduceToNat, Int.reduceLT, Int.reduceLE, Int.reduceNeg, reduceCtorEq, Int.reduceEq, Int.reduceNe, id_eq]) (by simp) (by simp) ?_ (.cl (.v _)) (by simp) (by simp) (by simp)) ?_
        · simp -dsimp -implicitDefEqProofs (maxSteps := 1000000) only [go_sem, ↓reduceIte, Nat.reduceAdd, Nat.reduceSub, Nat.reduceMul, Nat.reduceLT, Nat.reduceLeDiff, Nat.reduceEqDiff, Nat.reduceBEq, Nat.reduceBNe, Int.reduceToNat, Int.reduceLT, Int.reduceLE, Int.reduceNeg, reduceCtorEq, Int.reduceEq, Int.reduceNe, id_eq]
          exact ⟨renL_F (by simp -dsimp -implicitDefEqProofs (maxSteps := 1000000) only [go_sem, ↓reduceIte, Nat.reduceAdd, Nat.reduceSub, Nat.reduceMul, Nat.reduceLT, Nat.reduceLeDiff, Nat.reduceEqDiff, Nat.reduceBEq, Nat.reduceBNe, Int.reduceToNat, Int.reduceLT, Int.reduceLE, Int.reduceNeg, reduceCtorEq, Int.reduceEq, Int.reduceNe, id_eq]), renL_cl rfl (clCs _), renL_cl rfl (clCs _)⟩
        · simp -dsimp -implicitDefEqProofs (maxSteps := 1000000) only [go_sem, ↓reduceIte, Nat.reduceAdd, Nat.reduceSub, Nat.reduceMul, Nat.reduceLT, Nat.reduceLeDiff, Nat.reduceEqDiff, Nat.reduceBEq, Nat.reduceBNe, Int.reduceToNat, Int.reduceLT, Int.reduceLE, Int.reduceNeg, reduceCtorEq, Int.reduceEq, Int.reduceNe, id_eq]
          exact ⟨renL_F (by simp -dsimp -implicitDefEqProofs (maxSteps := 1000000) only [go_sem, ↓reduceIte, Nat.reduceAdd, Nat.reduceSub, Nat.reduceMul, Nat.reduceLT, Nat.reduceLeDiff, Nat.reduceEqDiff, Nat.reduceBEq, Nat.reduceBNe, Int.reduceToNat, Int.reduceLT, Int.reduceLE, Int.reduceNeg, reduceCtorEq, Int.reduceEq, Int.reduceNe, id_eq]), renL_cl rfl (clCs _), renL_cl rfl (clCs _)⟩
        simp -dsimp -implicitDefEqProofs (maxSteps := 1000000) only [go_sem, ↓reduceIte, Nat.reduceAdd, Nat.reduceSub, Nat.reduceMul, Nat.reduceLT, Nat.reduceLeDiff, Nat.reduceEqDiff, Nat.reduceBEq, Nat.reduceBNe, Int.reduceToNat, Int.reduceLT, Int.reduceLE, Int.reduceNeg, reduceCtorEq, Int.reduceEq, Int.reduceNe]
        have gK9 := getCs (show j < (K3).length by rw [(hK3).len]; exact hj)
        have hKl9 := (hK3).len
        simp -dsimp -implicitDefEqProofs (maxSteps := 1000000) only [go_sem, ↓reduceIte, Nat.reduceAdd, Nat.reduceSub, Nat.reduceMul, Nat.reduceLT, Nat.reduceLeDiff, Nat.reduceEqDiff, Nat.reduceBEq, Nat.reduceBNe, Int.reduceToNat, Int.reduceLT, Int.reduceLE, Int.reduceNeg, reduceCtorEq, Int.reduceEq, Int.reduceNe, hjz, Nat.zero_add, Int.natCast_nonneg, Int.toNat_natCast, gK9, setCs]
        refine ⟨fun h9 => ?_, fun h9 => ?_⟩
        · have h10 : out = -1 := by have := hout; unfold code at this; omega
          have gK8 := getCs (show j < ((K3).set j (wr (out + 1))).length by rw [List.length_set, hKl9]; exact hj)
          simp -dsimp -implicitDefEqProofs (maxSteps := 1000000) only [go_sem, ↓reduceIte, Nat.reduceAdd, Nat.reduceSub, Nat.reduceMul, Nat.reduceLT, Nat.reduceLeDiff, Nat.reduceEqDiff, Nat.reduceBEq, Nat.reduceBNe, Int.reduceToNat, Int.reduceLT, Int.reduceLE, Int.reduceNeg, reduceCtorEq, Int.reduceEq, Int.reduceNe, hjz, Nat.zero_add, Int.natCast_nonneg, Int.toNat_natCast, gK8, setCs]
          rw [if_pos h10, ← set_set (K3) j (wr (out + 1)) (-2)]
          refine FinM.mk [] [(0, .ptr 0 0 0)] (by simp -dsimp -implicitDefEqProofs (maxSteps := 1000000) only [go_sem, ↓reduceIte, Nat.reduceAdd, Nat.reduceSub, Nat.reduceMul, Nat.reduceLT, Nat.reduceLeDiff, Nat.reduceEqDiff, Nat.reduceBEq, Nat.reduceBNe, Int.reduceToNat, Int.reduceLT, Int.reduceLE, Int.reduceNeg, reduceCtorEq, Int.reduceEq, Int.reduceNe]) ?_ (by simp) (by simp [sg]) (by simp -dsimp -implicitDefEqProofs (maxSteps := 1000000) only [go_sem, ↓reduceIte, Nat.reduceAdd, Nat.reduceSub, Nat.reduceMul, Nat.reduceLT, Nat.reduceLeDiff, Nat.reduceEqDiff, Nat.reduceBEq, Nat.reduceBNe, Int.reduceToNat, Int.reduceLT, Int.reduceLE, Int.reduceNeg, reduceCtorEq, Int.reduceEq, Int.reduceNe]) ?_
          · simp -dsimp -implicitDefEqProofs (maxSteps := 1000000) only [go_sem, ↓reduceIte, Nat.reduceAdd, Nat.reduceSub, Nat.reduceMul, Nat.reduceLT, Nat.reduceLeDiff, Nat.reduceEqDiff, Nat.reduceBEq, Nat.reduceBNe, Int.reduceToNat, Int.reduceLT, Int.reduceLE, Int.reduceNeg, reduceCtorEq, Int.reduceEq, Int.reduceNe]
            exact ⟨renL_F (by simp -dsimp -implicitDefEqProofs (maxSteps := 1000000) only [go_sem, ↓reduceIte, Nat.reduceAdd, Nat.reduceSub, Nat.reduceMul, Nat.reduceLT, Nat.reduceLeDiff, Nat.reduceEqDiff, Nat.reduceBEq, Nat.reduceBNe, Int.reduceToNat, Int.reduceLT, Int.reduceLE, Int.reduceNeg, reduceCtorEq, Int.reduceEq, Int.reduceNe]), renL_cl rfl (clCs _), renL_cl rfl (clCs _)⟩
          · intro n hn
            simp only [List.mem_singleton] at hn
            subst hn
            exact ⟨0, _, _, rfl, rfl, rfl, rfl, rfl, by simp, by simp⟩
        · have h10 : ¬ out = -1 := by omega
          have h11 : wr (out + 1) = out + 1 := by have := hout; unfold code at this; rw [wr_in] <;> omega
          rw [if_neg h10, h11]
          refine FinM.mk [] [(0, .ptr 0 0 0)] (by simp -dsimp -implicitDefEqProofs (maxSteps := 1000000) only [go_sem, ↓reduceIte, Nat.reduceAdd, Nat.reduceSub, Nat.reduceMul, Nat.reduceLT, Nat.reduceLeDiff, Nat.reduceEqDiff, Nat.reduceBEq, Nat.reduceBNe, Int.reduceToNat, Int.reduceLT, Int.reduceLE, Int.reduceNeg, reduceCtorEq, Int.reduceEq, Int.reduceNe]) ?_ (by simp) (by simp [sg]) (by simp -dsimp -implicitDefEqProofs (maxSteps := 1000000) only [go_sem, ↓reduceIte, Nat.reduceAdd, Nat.reduceSub, Nat.reduceMul, Nat.reduceLT, Nat.reduceLeDiff, Nat.reduceEqDiff, Nat.reduceBEq, Nat.reduceBNe, Int.reduceToNat, Int.reduceLT, Int.reduceLE, Int.reduceNeg, reduceCtorEq, Int.reduceEq, Int.reduceNe]) ?_
          · simp -dsimp -implicitDefEqProofs (maxSteps := 1000000) only [go_sem, ↓reduceIte, Nat.reduceAdd, Nat.reduceSub, Nat.reduceMul, Nat.reduceLT, Nat.reduceLeDiff, Nat.reduceEqDiff, Nat.reduceBEq, Nat.reduceBNe, Int.reduceToNat, Int.reduceLT, Int.reduceLE, Int.reduceNeg, reduceCtorEq, Int.reduceEq, Int.reduceNe]
            exact ⟨renL_F (by simp -dsimp -implicitDefEqProofs (maxSteps := 1000000) only [go_sem, ↓reduceIte, Nat.reduceAdd, Nat.reduceSub, Nat.reduceMul, Nat.reduceLT, Nat.reduceLeDiff, Nat.reduceEqDiff, Nat.reduceBEq, Nat.reduceBNe, Int.reduceToNat, Int.reduceLT, Int.reduceLE, Int.reduceNeg, reduceCtorEq, Int.reduceEq, Int.reduceNe]), renL_cl rfl (clCs _), renL_cl rfl (clCs _)⟩
          · intro n hn
            simp only [List.mem_singleton] at hn
            subst hn
            exact ⟨0, _, _, rfl, rfl, rfl, rfl, rfl, by simp, by simp⟩
end

end Go.Proofs.Ytdamfkckjcplcaa
