/- What functions of the given program answer, part 7. Conditions: each theorem speaks for itself. -/
import Derived.Test.YtdhdopmjaibggaaBTy
import Derived.Test.YtdhdopmjaibggaaBE7
import Derived.Test.YtdhdopmjaibggaaBF1
import Derived.Test.YtdhdopmjaibggaaBF2
import Derived.Test.YtdhdopmjaibggaaBF3
import Derived.Test.YtdhdopmjaibggaaBF4
import Derived.Test.YtdhdopmjaibggaaBF5
import Derived.Test.YtdhdopmjaibggaaBF6
set_option linter.unusedSimpArgs false
set_option linter.unusedVariables false
namespace Go.Proofs.Ytdhdopmjaibggaa
open Go Go.Eng Go.RowKit
attribute [local go_sem ↓] qE_move qE_assign qE_pick qE_load qE_fieldAddr qE_indexAddr qE_field qE_extract qE_binOp qE_neg qE_not qE_convert qE_makeFunc qE_build qE_len qE_max2 qE_min2 qE_max3 qE_min3 qE_max4 qE_nilCheck qE_slice vc_end vc_skip vc_label vc_ret vc_seq vc_cond vc_block vc_exit vc_region vc_draw vc_rangeFunc vc_loop vc_blk vc_lp vc_o_nil vc_o vc_o_guard onK_eq oK_move oK_assign oK_pick oK_load oK_fieldAddr oK_indexAddr oK_field oK_index oK_extract oK_binOp oK_unOp oK_convert oK_makeFunc oK_nilCheck oK_slice oK_build oK_len oK_max oK_min onN_eq oK_box oK_alloc oK_buildSlice oK_makeSlice onH_eq oK_store onA_eq oK_append oK_call oK_makeMap oK_lookup oK_mapUpdate oK_range oK_next oK_copy oK_clear bV_add bV_sub bV_mul bV_quo bV_rem bV_and bV_or bV_xor bV_shl bV_shr bV_eql bV_neq bV_lss bV_leq bV_gtr bV_geq bV_add_s bV_eql_s bV_neq_s vcQ_nil vcQ_cons vcQ_guard Q_move Q_assign Q_pick Q_load Q_fieldAddr Q_indexAddr Q_field Q_index Q_extract Q_binOp Q_unOp Q_convert Q_makeFunc Q_nilCheck Q_slice Q_build Q_len Q_max Q_min Q_box Q_alloc Q_buildSlice onQA_eq Q_append Q_call qE_index tailB_nil tailB_true onS_eq tailB_store onP_eq tailB_append onQ_eq onQB_eq loadE indexE
attribute [local go_sem] force_eq optK_some optK_none optE_some optE_none vK_v bK_v gK_g tK_t fnK_fn fyK_fn fyK_y nK_ptr nK_rp nK_fn pK_ptr pK_rp brK_true brK_false brK_not evA_tmp evA_const evA_func putA_some putA_none pushA_eq slots_zero slots_nil tl_nil tl_cons find_cons find_nil setN_cons setN_nil dropN_nil dropN_none dropN_cons loE_none loE_some hiE_none hiE_some slE_sl slE_ro slE_str bE_i bE_s bE_beq bE_bne bE_eql bE_neq intsA_nil intsA_cons gdK_b gdK_u popTo_blk popTo_c popTo_o popTo_lp srcE_ro srcE_sl srcE_ez srcE_nil srcE_str dstE_sl dstE_nil dstE_ez fin_eq res_nil res_tmp res_cell tup1 tup2 tup3 tup0 optA_some optA_none frz_v frz_ro frz_rp frz_ez nm_ez frz_unk frz_t frz_g frz_fn frz_ptr frz_sl optL_some optL_none nm_v nm_ro nm_rp nm_unk nm_t nm_g nm_fn nm_ptr nm_sl cells_v cells_g cells_ro cells_ez cells_rp cells_ptr cells_sl cells_fn one_int one_bool one_string one_slice one_pointer one_nilFunc oneA_v oneA_ro oneA_ez oneA_rp oneA_ptr oneA_sl oneA_fn ofV_int ofV_bool ofV_string ofV_slice ofV_nilFunc ofV_pointer ofV_agg len_ro len_ez len_sl len_nil asI_int fill_nil fill_cons chunks_nil chunks_cons take_all DrawK_eq tailT_leaf tailT_step tailT_both idR_eq addB_some roB_nil roB_cons dstQ_nil dstQ_ez sg_nil sg_cons ren_unk ren_v ren_nil ren_ptr ren_sl ren_ro ren_rp iK_ro iK_sl ixE_g ixE_s RfEnd_eq RfQ_eq RfBody_eq takeA_00 takeA_s rest_eq updL_cons updL_nil nil_eq maskE_eq wrap_wr brK_dec maskH_eq upd_get slots_succ Cl_v Cl_ro Cl_rp Cl_fn Cl_g Cl_t Cl_unk Cl_ez if_true if_false List.toList_toArray List.map_cons List.map_nil List.cons_append List.nil_append List.append_nil List.flatMap_cons List.flatMap_nil List.getElem?_cons_zero List.getElem?_cons_succ List.length_cons List.length_nil List.drop_succ_cons List.drop_zero List.take_succ_cons List.take_zero List.all_cons List.all_nil List.set_cons_zero List.set_cons_succ Option.bind_some Option.bind_none Option.map_some Option.map_none List.headD_cons List.tail_cons List.getElem?_toArray beq_true beq_false Bool.not_true Bool.not_false Bool.true_and Bool.and_true Bool.false_and Bool.and_false newCh List.replicate_succ List.replicate_zero Option.some.injEq exists_eq_left' sg_nil sg_cons List.mem_cons List.not_mem_nil forall_eq_or_imp forall_eq false_implies implies_true or_false false_or false_and and_false or_true true_or exists_false Option.isSome_some Option.isSome_none List.range_zero
attribute [local go_sem] T.sz2 T.by2 T.ag2 T.sl2 T.ar2 T.pt2 T.ik2 T.us2 T.ze2 T.sz3 T.by3 T.ag3 T.sl3 T.ar3 T.pt3 T.ik3 T.us3 T.ze3 T.sz4 T.by4 T.ag4 T.sl4 T.ar4 T.pt4 T.ik4 T.us4 T.bo4 T.ze4 T.sz5 T.by5 T.ag5 T.sl5 T.ar5 T.pt5 T.ik5 T.us5 T.ze5 T.sz6 T.by6 T.ag6 T.sl6 T.ar6 T.pt6 T.ik6 T.us6 T.ze6 T.sz7 T.by7 T.ag7 T.sl7 T.ar7 T.pt7 T.ik7 T.us7 T.ze7 T.fl7_0 T.fl7_1 T.fl7_2 T.fl7_3 T.bu7 T.sz8 T.by8 T.ag8 T.sl8 T.ar8 T.pt8 T.ik8 T.us8 T.ze8 T.fl8_0 T.fl8_1 T.fl8_2 T.fl8_3 T.bu8 T.sz9 T.by9 T.ag9 T.sl9 T.ar9 T.pt9 T.ik9 T.us9 T.st9 T.ze9 T.sz10 T.by10 T.ag10 T.sl10 T.ar10 T.pt10 T.ik10 T.us10 T.st10 T.ze10 T.sz11 T.by11 T.ag11 T.sl11 T.ar11 T.pt11 T.ik11 T.us11 T.st11 T.ze11 T.sz12 T.by12 T.ag12 T.sl12 T.ar12 T.pt12 T.ik12 T.us12 T.ze12 T.sz13 T.by13 T.ag13 T.sl13 T.ar13 T.pt13 T.ik13 T.us13 T.ze13 T.fl13_0 T.fl13_1 T.bu13 T.sz14 T.by14 T.ag14 T.sl14 T.ar14 T.pt14 T.ik14 T.us14 T.ze14 T.fl14_0 T.fl14_1 T.bu14 T.sz15 T.by15 T.ag15 T.sl15 T.ar15 T.pt15 T.ik15 T.us15 T.ze15 T.sz16 T.by16 T.ag16 T.sl16 T.ar16 T.pt16 T.ik16 T.us16 T.ze16 T.sz17 T.by17 T.ag17 T.sl17 T.ar17 T.pt17 T.ik17 T.us17 T.ze17 T.sz18 T.by18 T.ag18 T.sl18 T.ar18 T.pt18 T.ik18 T.us18 T.ze18 T.fl18_0 T.bu18 T.sz19 T.by19 T.ag19 T.sl19 T.ar19 T.pt19 T.ik19 T.us19 T.ze19 T.fl19_0 T.bu19 T.sz21 T.by21 T.ag21 T.sl21 T.ar21 T.pt21 T.ik21 T.us21 T.ze21 T.sz22 T.by22 T.ag22 T.sl22 T.ar22 T.pt22 T.ik22 T.us22 T.ze22 T.fl22_0 T.fl22_1 T.bu22 T.sz23 T.by23 T.ag23 T.sl23 T.ar23 T.pt23 T.ik23 T.us23 T.ze23 T.fl23_0 T.fl23_1 T.bu23 T.sz24 T.by24 T.ag24 T.sl24 T.ar24 T.pt24 T.ik24 T.us24 T.ze24 T.bu24 T.sz25 T.by25 T.ag25 T.sl25 T.ar25 T.pt25 T.ik25 T.us25 T.ze25 T.sz28 T.by28 T.ag28 T.sl28 T.ar28 T.pt28 T.ik28 T.us28 T.ze28 T.sz36 T.by36 T.ag36 T.sl36 T.ar36 T.pt36 T.ik36 T.us36 T.ze36 T.sz37 T.by37 T.ag37 T.sl37 T.ar37 T.pt37 T.ik37 T.us37 T.ze37 T.fl37_0 T.fl37_1 T.bu37 T.sz38 T.by38 T.ag38 T.sl38 T.ar38 T.pt38 T.ik38 T.us38 T.ze38 T.fl38_0 T.fl38_1 T.bu38 T.sz52 T.by52 T.ag52 T.sl52 T.ar52 T.pt52 T.ik52 T.us52 T.ze52 T.bu52 T.sz58 T.by58 T.ag58 T.sl58 T.ar58 T.pt58 T.ik58 T.us58 T.ze58 T.bu58 T.sz73 T.by73 T.ag73 T.sl73 T.ar73 T.pt73 T.ik73 T.us73 T.ze73 T.bu73 T.sz87 T.by87 T.ag87 T.sl87 T.ar87 T.pt87 T.ik87 T.us87 T.ze87 T.fl87_0 T.fl87_1 T.fl87_2 T.fl87_3 T.bu87 T.sz88 T.by88 T.ag88 T.sl88 T.ar88 T.pt88 T.ik88 T.us88 T.ze88 T.fl88_0 T.fl88_1 T.fl88_2 T.fl88_3 T.bu88 T.sz89 T.by89 T.ag89 T.sl89 T.ar89 T.pt89 T.ik89 T.us89 T.ze89 T.bu89 T.sz90 T.by90 T.ag90 T.sl90 T.ar90 T.pt90 T.ik90 T.us90 T.ze90 T.fl90_0 T.sz91 T.by91 T.ag91 T.sl91 T.ar91 T.pt91 T.ik91 T.us91 T.ze91 T.fl91_0 T.sz92 T.by92 T.ag92 T.sl92 T.ar92 T.pt92 T.ik92 T.us92 T.ze92 T.sz93 T.by93 T.ag93 T.sl93 T.ar93 T.pt93 T.ik93 T.us93 T.ze93 T.sz94 T.by94 T.ag94 T.sl94 T.ar94 T.pt94 T.ik94 T.us94 T.ze94 T.sz96 T.by96 T.ag96 T.sl96 T.ar96 T.pt96 T.ik96 T.us96 T.ze96 T.sz97 T.by97 T.ag97 T.sl97 T.ar97 T.pt97 T.ik97 T.us97 T.ze97 T.sz98 T.by98 T.ag98 T.sl98 T.ar98 T.pt98 T.ik98 T.us98 T.ze98 T.sz99 T.by99 T.ag99 T.sl99 T.ar99 T.pt99 T.ik99 T.us99 T.ze99 T.fl99_0 T.fl99_1 T.fl99_2 T.fl99_3 T.fl99_4 T.fl99_5 T.fl99_6 T.fl99_7 T.fl99_8 T.fl99_9 T.fl99_10 T.sz100 T.by100 T.ag100 T.sl100 T.ar100 T.pt100 T.ik100 T.us100 T.ze100 T.fl100_0 T.fl100_1 T.fl100_2 T.fl100_3 T.fl100_4 T.fl100_5 T.fl100_6 T.fl100_7 T.fl100_8 T.fl100_9 T.fl100_10 T.sz101 T.by101 T.ag101 T.sl101 T.ar101 T.pt101 T.ik101 T.us101 T.ze101
section
set_option maxRecDepth 20000
attribute [local go_sem] clPts eqk23'
theorem samePathZ : PFun Try.prog 24 [PaZ, PaZ] (Bo true) := by
  refine PFun.intro 400 mixed Try.func24 (by kernel_rfl) rfl (by first | exact .v _ | (simp [Cl_v, Cl_t, Cl_g, Cl_fn, Cl_rp, Cl_ro]; done) | (simp [Cl_v, Cl_t, Cl_g, Cl_fn, Cl_rp, Cl_ro, or_imp, forall_and]; done) | (split <;> simp [Cl_v, Cl_t, Cl_g, Cl_fn, Cl_rp, Cl_ro])) (Nat.le_of_ble_eq_true rfl) ?_; rw [Try.ntmps24, Try.results24]
  simp (config := {maxSteps := 1000000, dsimp := false, implicitDefEqProofs := false}) only [go_sem, ↓reduceIte, Nat.reduceAdd, Nat.reduceSub, Nat.reduceMul, Nat.reduceLT, Nat.reduceLeDiff, Nat.reduceEqDiff, Nat.reduceBEq, Nat.reduceBNe, Int.reduceToNat, Int.reduceLT, Int.reduceLE, Int.reduceNeg, reduceCtorEq, Int.reduceEq, Int.reduceNe, Bool.false_eq_true, decide_true, decide_false, beq_self_eq_true, true_and, and_true, ne_eq, not_true, not_false_eq_true, List.elem_cons, List.elem_nil, List.contains_cons, List.contains_nil, List.getD_cons_zero, List.getD_cons_succ, Int.cast_ofNat_Int, Bool.or_true, Bool.true_or, Bool.or_false, Bool.false_or]
  refine AtFn.pure0 sameN ?_
  simp (config := {maxSteps := 1000000, dsimp := false, implicitDefEqProofs := false}) only [go_sem, ↓reduceIte, Nat.reduceAdd, Nat.reduceSub, Nat.reduceMul, Nat.reduceLT, Nat.reduceLeDiff, Nat.reduceEqDiff, Nat.reduceBEq, Nat.reduceBNe, Int.reduceToNat, Int.reduceLT, Int.reduceLE, Int.reduceNeg, reduceCtorEq, Int.reduceEq, Int.reduceNe, Bool.false_eq_true, decide_true, decide_false, beq_self_eq_true, true_and, and_true, ne_eq, not_true, not_false_eq_true, List.elem_cons, List.elem_nil, List.contains_cons, List.contains_nil, List.getD_cons_zero, List.getD_cons_succ, Int.cast_ofNat_Int, Bool.or_true, Bool.true_or, Bool.or_false, Bool.false_or]
theorem str_len (l : List (Int × Int)) (c : Bool) (h : l.length ≤ 250) : (strW l c).length < 2 ^ 20 := by
  have := strT_len l c l.length
  unfold strW
  omega
theorem flatStraight (l : List (Int × Int)) (c : Bool) : PFun Try.prog 5 [Pts l, Bo c] (Bo true) := by
  refine PFun.intro 400 mixed Try.func5 (by kernel_rfl) rfl (by first | exact .v _ | (simp [Cl_v, Cl_t, Cl_g, Cl_fn, Cl_rp, Cl_ro]; done) | (simp [Cl_v, Cl_t, Cl_g, Cl_fn, Cl_rp, Cl_ro, or_imp, forall_and]; done) | (split <;> simp [Cl_v, Cl_t, Cl_g, Cl_fn, Cl_rp, Cl_ro])) (Nat.le_of_ble_eq_true rfl) ?_; rw [Try.ntmps5, Try.results5]
  simp (config := {maxSteps := 1000000, dsimp := false, implicitDefEqProofs := false}) only [go_sem, ↓reduceIte, Nat.reduceAdd, Nat.reduceSub, Nat.reduceMul, Nat.reduceLT, Nat.reduceLeDiff, Nat.reduceEqDiff, Nat.reduceBEq, Nat.reduceBNe, Int.reduceToNat, Int.reduceLT, Int.reduceLE, Int.reduceNeg, reduceCtorEq, Int.reduceEq, Int.reduceNe, Bool.false_eq_true, decide_true, decide_false, beq_self_eq_true, true_and, and_true, ne_eq, not_true, not_false_eq_true, List.elem_cons, List.elem_nil, List.contains_cons, List.contains_nil, List.getD_cons_zero, List.getD_cons_succ, Int.cast_ofNat_Int, Bool.or_true, Bool.true_or, Bool.or_false, Bool.false_or, List.length_map]
  refine ⟨fun h => ?_, fun h => ?_⟩
  · refine AtFn.pure0 awake ?_
    simp (config := {maxSteps := 1000000, dsimp := false, implicitDefEqProofs := false}) only [go_sem, ↓reduceIte, Nat.reduceAdd, Nat.reduceSub, Nat.reduceMul, Nat.reduceLT, Nat.reduceLeDiff, Nat.reduceEqDiff, Nat.reduceBEq, Nat.reduceBNe, Int.reduceToNat, Int.reduceLT, Int.reduceLE, Int.reduceNeg, reduceCtorEq, Int.reduceEq, Int.reduceNe, Bool.false_eq_true, decide_true, decide_false, beq_self_eq_true, true_and, and_true, ne_eq, not_true, not_false_eq_true, List.elem_cons, List.elem_nil, List.contains_cons, List.contains_nil, List.getD_cons_zero, List.getD_cons_succ, Int.cast_ofNat_Int, Bool.or_true, Bool.true_or, Bool.or_false, Bool.false_or]
  · have hn : l.length ≤ 250 := by omega
    have f1 := Straight l c (by omega)
    have f2 := rStraight l c (by omega)
    refine ⟨by omega, fun q hq x hx => ones_pc hq hx, ?_⟩
    by_cases ho : okS l c = true
    · rw [if_pos ho] at f1 f2
      have hs := str_len l c hn
      have f3 := Line (strW l c) c hs
      rw [if_pos (str_valid l c ho), str_line l c ho] at f3
      have f4 := samePath (strW l c) (strW l c) c c (by omega)
      rw [decide_eq_true rfl, decide_eq_true rfl] at f4
      have h0 := ((okS_iff l c).1 ho).1
      have hp := getD_some (l := l) (i := 0) (by omega) (0, 0)
      refine AtFn.pure f1 ?_
      simp (config := {maxSteps := 1000000, dsimp := false, implicitDefEqProofs := false}) only [go_sem, ↓reduceIte, Nat.reduceAdd, Nat.reduceSub, Nat.reduceMul, Nat.reduceLT, Nat.reduceLeDiff, Nat.reduceEqDiff, Nat.reduceBEq, Nat.reduceBNe, Int.reduceToNat, Int.reduceLT, Int.reduceLE, Int.reduceNeg, reduceCtorEq, Int.reduceEq, Int.reduceNe, Bool.false_eq_true, decide_true, decide_false, beq_self_eq_true, true_and, and_true, ne_eq, not_true, not_false_eq_true, List.elem_cons, List.elem_nil, List.contains_cons, List.contains_nil, List.getD_cons_zero, List.getD_cons_succ, Int.cast_ofNat_Int, Bool.or_true, Bool.true_or, Bool.or_false, Bool.false_or, List.length_map, Nat.zero_add, Nat.le_refl, pc_take]
      refine AtFn.pure0 f2 ?_
      simp (config := {maxSteps := 1000000, dsimp := false, implicitDefEqProofs := false}) only [go_sem, ↓reduceIte, Nat.reduceAdd, Nat.reduceSub, Nat.reduceMul, Nat.reduceLT, Nat.reduceLeDiff, Nat.reduceEqDiff, Nat.reduceBEq, Nat.reduceBNe, Int.reduceToNat, Int.reduceLT, Int.reduceLE, Int.reduceNeg, reduceCtorEq, Int.reduceEq, Int.reduceNe, Bool.false_eq_true, decide_true, decide_false, beq_self_eq_true, true_and, and_true, ne_eq, not_true, not_false_eq_true, List.elem_cons, List.elem_nil, List.contains_cons, List.contains_nil, List.getD_cons_zero, List.getD_cons_succ, Int.cast_ofNat_Int, Bool.or_true, Bool.true_or, Bool.or_false, Bool.false_or]
      refine AtFn.pure0 f4 ?_
      simp (config := {maxSteps := 1000000, dsimp := false, implicitDefEqProofs := false}) only [go_sem, ↓reduceIte, Nat.reduceAdd, Nat.reduceSub, Nat.reduceMul, Nat.reduceLT, Nat.reduceLeDiff, Nat.reduceEqDiff, Nat.reduceBEq, Nat.reduceBNe, Int.reduceToNat, Int.reduceLT, Int.reduceLE, Int.reduceNeg, reduceCtorEq, Int.reduceEq, Int.reduceNe, Bool.false_eq_true, decide_true, decide_false, beq_self_eq_true, true_and, and_true, ne_eq, not_true, not_false_eq_true, List.elem_cons, List.elem_nil, List.contains_cons, List.contains_nil, List.getD_cons_zero, List.getD_cons_succ, Int.cast_ofNat_Int, Bool.or_true, Bool.true_or, Bool.or_false, Bool.false_or]
      refine AtFn.pure0 f3 ?_
      simp (config := {maxSteps := 1000000, dsimp := false, implicitDefEqProofs := false}) only [go_sem, ↓reduceIte, Nat.reduceAdd, Nat.reduceSub, Nat.reduceMul, Nat.reduceLT, Nat.reduceLeDiff, Nat.reduceEqDiff, Nat.reduceBEq, Nat.reduceBNe, Int.reduceToNat, Int.reduceLT, Int.reduceLE, Int.reduceNeg, reduceCtorEq, Int.reduceEq, Int.reduceNe, Bool.false_eq_true, decide_true, decide_false, beq_self_eq_true, true_and, and_true, ne_eq, not_true, not_false_eq_true, List.elem_cons, List.elem_nil, List.contains_cons, List.contains_nil, List.getD_cons_zero, List.getD_cons_succ, Int.cast_ofNat_Int, Bool.or_true, Bool.true_or, Bool.or_false, Bool.false_or]
      refine ⟨by simp; omega, fun q hq x hx => ones_pc hq hx, ?_⟩
      cases c
      · simp (config := {maxSteps := 1000000, dsimp := false, implicitDefEqProofs := false}) only [go_sem, ↓reduceIte, Nat.reduceAdd, Nat.reduceSub, Nat.reduceMul, Nat.reduceLT, Nat.reduceLeDiff, Nat.reduceEqDiff, Nat.reduceBEq, Nat.reduceBNe, Int.reduceToNat, Int.reduceLT, Int.reduceLE, Int.reduceNeg, reduceCtorEq, Int.reduceEq, Int.reduceNe, Bool.false_eq_true, decide_true, decide_false, beq_self_eq_true, true_and, and_true, ne_eq, not_true, not_false_eq_true, List.elem_cons, List.elem_nil, List.contains_cons, List.contains_nil, List.getD_cons_zero, List.getD_cons_succ, Int.cast_ofNat_Int, Bool.or_true, Bool.true_or, Bool.or_false, Bool.false_or]
        refine AtFn.pure (sameT l (by omega)) ?_
        simp (config := {maxSteps := 1000000, dsimp := false, implicitDefEqProofs := false}) only [go_sem, ↓reduceIte, Nat.reduceAdd, Nat.reduceSub, Nat.reduceMul, Nat.reduceLT, Nat.reduceLeDiff, Nat.reduceEqDiff, Nat.reduceBEq, Nat.reduceBNe, Int.reduceToNat, Int.reduceLT, Int.reduceLE, Int.reduceNeg, reduceCtorEq, Int.reduceEq, Int.reduceNe, Bool.false_eq_true, decide_true, decide_false, beq_self_eq_true, true_and, and_true, ne_eq, not_true, not_false_eq_true, List.elem_cons, List.elem_nil, List.contains_cons, List.contains_nil, List.getD_cons_zero, List.getD_cons_succ, Int.cast_ofNat_Int, Bool.or_true, Bool.true_or, Bool.or_false, Bool.false_or, List.length_map, Nat.zero_add, Nat.le_refl, pc_take]
        refine AtFn.pure0 awake ?_
        simp (config := {maxSteps := 1000000, dsimp := false, implicitDefEqProofs := false}) only [go_sem, ↓reduceIte, Nat.reduceAdd, Nat.reduceSub, Nat.reduceMul, Nat.reduceLT, Nat.reduceLeDiff, Nat.reduceEqDiff, Nat.reduceBEq, Nat.reduceBNe, Int.reduceToNat, Int.reduceLT, Int.reduceLE, Int.reduceNeg, reduceCtorEq, Int.reduceEq, Int.reduceNe, Bool.false_eq_true, decide_true, decide_false, beq_self_eq_true, true_and, and_true, ne_eq, not_true, not_false_eq_true, List.elem_cons, List.elem_nil, List.contains_cons, List.contains_nil, List.getD_cons_zero, List.getD_cons_succ, Int.cast_ofNat_Int, Bool.or_true, Bool.true_or, Bool.or_false, Bool.false_or]
      · simp (config := {maxSteps := 1000000, dsimp := false, implicitDefEqProofs := false}) only [go_sem, ↓reduceIte, Nat.reduceAdd, Nat.reduceSub, Nat.reduceMul, Nat.reduceLT, Nat.reduceLeDiff, Nat.reduceEqDiff, Nat.reduceBEq, Nat.reduceBNe, Int.reduceToNat, Int.reduceLT, Int.reduceLE, Int.reduceNeg, reduceCtorEq, Int.reduceEq, Int.reduceNe, Bool.false_eq_true, decide_true, decide_false, beq_self_eq_true, true_and, and_true, ne_eq, not_true, not_false_eq_true, List.elem_cons, List.elem_nil, List.contains_cons, List.contains_nil, List.getD_cons_zero, List.getD_cons_succ, Int.cast_ofNat_Int, Bool.or_true, Bool.true_or, Bool.or_false, Bool.false_or, List.length_map, List.getElem?_map, hp, pc_take]
        refine ⟨by omega, by omega, ?_⟩
        have hT : takeA 0 (l.length + 1) (pc l ++ [[I (l.getD 0 (0, 0)).1, I (l.getD 0 (0, 0)).2]]) = pc (l ++ [l.getD 0 (0, 0)]) := by
          rw [takeA_self (by simp), pc_snoc]
        refine AtFn.pure (sameT (l ++ [l.getD 0 (0, 0)]) (by simp; omega)) ?_
        simp (config := {maxSteps := 1000000, dsimp := false, implicitDefEqProofs := false}) only [go_sem, ↓reduceIte, Nat.reduceAdd, Nat.reduceSub, Nat.reduceMul, Nat.reduceLT, Nat.reduceLeDiff, Nat.reduceEqDiff, Nat.reduceBEq, Nat.reduceBNe, Int.reduceToNat, Int.reduceLT, Int.reduceLE, Int.reduceNeg, reduceCtorEq, Int.reduceEq, Int.reduceNe, Bool.false_eq_true, decide_true, decide_false, beq_self_eq_true, true_and, and_true, ne_eq, not_true, not_false_eq_true, List.elem_cons, List.elem_nil, List.contains_cons, List.contains_nil, List.getD_cons_zero, List.getD_cons_succ, Int.cast_ofNat_Int, Bool.or_true, Bool.true_or, Bool.or_false, Bool.false_or, List.length_map, Nat.zero_add, Nat.le_refl, hT, List.length_append]
        refine AtFn.pure0 awake ?_
        simp (config := {maxSteps := 1000000, dsimp := false, implicitDefEqProofs := false}) only [go_sem, ↓reduceIte, Nat.reduceAdd, Nat.reduceSub, Nat.reduceMul, Nat.reduceLT, Nat.reduceLeDiff, Nat.reduceEqDiff, Nat.reduceBEq, Nat.reduceBNe, Int.reduceToNat, Int.reduceLT, Int.reduceLE, Int.reduceNeg, reduceCtorEq, Int.reduceEq, Int.reduceNe, Bool.false_eq_true, decide_true, decide_false, beq_self_eq_true, true_and, and_true, ne_eq, not_true, not_false_eq_true, List.elem_cons, List.elem_nil, List.contains_cons, List.contains_nil, List.getD_cons_zero, List.getD_cons_succ, Int.cast_ofNat_Int, Bool.or_true, Bool.true_or, Bool.or_false, Bool.false_or]
    · rw [if_neg ho] at f1 f2
      refine AtFn.pure f1 ?_
      simp (config := {maxSteps := 1000000, dsimp := false, implicitDefEqProofs := false}) only [go_sem, ↓reduceIte, Nat.reduceAdd, Nat.reduceSub, Nat.reduceMul, Nat.reduceLT, Nat.reduceLeDiff, Nat.reduceEqDiff, Nat.reduceBEq, Nat.reduceBNe, Int.reduceToNat, Int.reduceLT, Int.reduceLE, Int.reduceNeg, reduceCtorEq, Int.reduceEq, Int.reduceNe, Bool.false_eq_true, decide_true, decide_false, beq_self_eq_true, true_and, and_true, ne_eq, not_true, not_false_eq_true, List.elem_cons, List.elem_nil, List.contains_cons, List.contains_nil, List.getD_cons_zero, List.getD_cons_succ, Int.cast_ofNat_Int, Bool.or_true, Bool.true_or, Bool.or_false, Bool.false_or, List.length_map, Nat.zero_add, Nat.le_refl, pc_take]
      refine AtFn.pure0 f2 ?_
      simp (config := {maxSteps := 1000000, dsimp := false, implicitDefEqProofs := false}) only [go_sem, ↓reduceIte, Nat.reduceAdd, Nat.reduceSub, Nat.reduceMul, Nat.reduceLT, Nat.reduceLeDiff, Nat.reduceEqDiff, Nat.reduceBEq, Nat.reduceBNe, Int.reduceToNat, Int.reduceLT, Int.reduceLE, Int.reduceNeg, reduceCtorEq, Int.reduceEq, Int.reduceNe, Bool.false_eq_true, decide_true, decide_false, beq_self_eq_true, true_and, and_true, ne_eq, not_true, not_false_eq_true, List.elem_cons, List.elem_nil, List.contains_cons, List.contains_nil, List.getD_cons_zero, List.getD_cons_succ, Int.cast_ofNat_Int, Bool.or_true, Bool.true_or, Bool.or_false, Bool.false_or]
      refine AtFn.pure0 samePathZ ?_
      simp (config := {maxSteps := 1000000, dsimp := false, implicitDefEqProofs := false}) only [go_sem, ↓reduceIte, Nat.reduceAdd, Nat.reduceSub, Nat.reduceMul, Nat.reduceLT, Nat.reduceLeDiff, Nat.reduceEqDiff, Nat.reduceBEq, Nat.reduceBNe, Int.reduceToNat, Int.reduceLT, Int.reduceLE, Int.reduceNeg, reduceCtorEq, Int.reduceEq, Int.reduceNe, Bool.false_eq_true, decide_true, decide_false, beq_self_eq_true, true_and, and_true, ne_eq, not_true, not_false_eq_true, List.elem_cons, List.elem_nil, List.contains_cons, List.contains_nil, List.getD_cons_zero, List.getD_cons_succ, Int.cast_ofNat_Int, Bool.or_true, Bool.true_or, Bool.or_false, Bool.false_or]
      refine AtFn.pure0 awake ?_
      simp (config := {maxSteps := 1000000, dsimp := false, implicitDefEqProofs := false}) only [go_sem, ↓reduceIte, Nat.reduceAdd, Nat.reduceSub, Nat.reduceMul, Nat.reduceLT, Nat.reduceLeDiff, Nat.reduceEqDiff, Nat.reduceBEq, Nat.reduceBNe, Int.reduceToNat, Int.reduceLT, Int.reduceLE, Int.reduceNeg, reduceCtorEq, Int.reduceEq, Int.reduceNe, Bool.false_eq_true, decide_true, decide_false, beq_self_eq_true, true_and, and_true, ne_eq, not_true, not_false_eq_true, List.elem_cons, List.elem_nil, List.contains_cons, List.contains_nil, List.getD_cons_zero, List.getD_cons_succ, Int.cast_ofNat_Int, Bool.or_true, Bool.true_or, Bool.or_false, Bool.false_or]

end

section
set_option maxRecDepth 20000
theorem hom (a b c d k n s : Int) : sumP a b c d (k * s) (n * s) = s * s * s * sumP a b c d k n := by unfold sumP; grind
theorem at_hom (a b c d k n s : Int) (ha : inC a = true) (hb : inC b = true) (hc : inC c = true) (hd : inC d = true) (h1 : 1 ≤ n) (h2 : n * s = 256) (h3 : 1 ≤ s) (h4 : 0 ≤ k) (h5 : k ≤ n) :
    atW a b c d k n = atW a b c d (k * s) 256 := by
  have hks : 0 ≤ k * s := Int.mul_nonneg h4 (by omega)
  have hkn : k * s ≤ n * s := Int.mul_le_mul_of_nonneg_right h5 (by omega)
  have hn : n ≤ 256 := by
    have := Int.mul_le_mul_of_nonneg_left h3 (show 0 ≤ n by omega)
    omega
  rw [atW_eq a b c d k n ha hb hc hd h1 (by omega) h4 h5, atW_eq a b c d (k * s) 256 ha hb hc hd (by omega) (by omega) hks (by omega)]
  have e1 : sumP a b c d (k * s) 256 = s * s * s * sumP a b c d k n := by rw [← h2]; exact hom a b c d k n s
  have e2 : (256 : Int) * 256 * 256 = s * s * s * (n * n * n) := by rw [← h2]; grind
  rw [e1, e2]
  have e3 : 2 * (s * s * s * sumP a b c d k n) + s * s * s * (n * n * n) = s * s * s * (2 * sumP a b c d k n + n * n * n) := by grind
  have e4 : 2 * (s * s * s * (n * n * n)) = s * s * s * (2 * (n * n * n)) := by grind
  rw [e3, e4, Int.mul_ediv_mul_of_pos]
  have : 0 < s * s := Int.mul_pos (by omega) (by omega)
  exact Int.mul_pos this (by omega)
/-- Rounding. -/
theorem at_round (a b c d j : Int) (ha : inC a = true) (hb : inC b = true) (hc : inC c = true) (hd : inC d = true) (h0 : 0 ≤ j) (h1 : j ≤ 256) :
    2 * sumP a b c d j 256 - 16777216 ≤ 33554432 * atW a b c d j 256 ∧ 33554432 * atW a b c d j 256 ≤ 2 * sumP a b c d j 256 + 16777216 := by
  rw [atW_eq a b c d j 256 ha hb hc hd (by omega) (by omega) h0 h1]
  have e : (256 : Int) * 256 * 256 = 16777216 := by omega
  rw [e]
  omega
/-- The second difference. -/
theorem second (a b c d x r s : Int) : sumP a b c d (x + r) 256 * s - sumP a b c d x 256 * (s - r) - sumP a b c d (x + s) 256 * r =
    -(s * (r * (s - r))) * ((a - 2 * b + c) * (3 * (256 - x) - (r + s)) + (b - 2 * c + d) * (3 * x + r + s)) := by unfold sumP; grind
theorem dev (a b c d x r s n B : Int) (ha : inC a = true) (hb : inC b = true) (hc : inC c = true) (hd : inC d = true) (hx : 0 ≤ x) (hr : 0 ≤ r) (hrs : r ≤ s) (hxs : x + s ≤ 256) (hns : n * s = 256)
    (hB : B ≤ 8192 * (n * n)) (hp : -B ≤ a - 2 * b + c ∧ a - 2 * b + c ≤ B) (hq : -B ≤ b - 2 * c + d ∧ b - 2 * c + d ≤ B) :
    -(6145 * s) ≤ (atW a b c d (x + r) 256 - atW a b c d x 256) * s - (atW a b c d (x + s) 256 - atW a b c d x 256) * r ∧
    (atW a b c d (x + r) 256 - atW a b c d x 256) * s - (atW a b c d (x + s) 256 - atW a b c d x 256) * r ≤ 6145 * s := by
  have hD := second a b c d x r s
  have hv := at_round a b c d (x + r) ha hb hc hd (by omega) (by omega)
  have hu := at_round a b c d x ha hb hc hd (by omega) (by omega)
  have hw := at_round a b c d (x + s) ha hb hc hd (by omega) (by omega)
  generalize hp' : a - 2 * b + c = p at hD hp
  generalize hq' : b - 2 * c + d = q at hD hq
  generalize sumP a b c d (x + r) 256 = F1 at *
  generalize sumP a b c d x 256 = F0 at *
  generalize sumP a b c d (x + s) 256 = F2 at *
  generalize atW a b c d (x + r) 256 = v at *
  generalize atW a b c d x 256 = u at *
  generalize atW a b c d (x + s) 256 = w at *
  have hs : 0 ≤ s := by omega
  -- the weights
  have c1 : 0 ≤ 3 * (256 - x) - (r + s) := by omega
  have c2 : 0 ≤ 3 * x + r + s := by omega
  have w1 := Int.mul_le_mul_of_nonneg_right hp.1 c1
  have w2 := Int.mul_le_mul_of_nonneg_right hp.2 c1
  have w3 := Int.mul_le_mul_of_nonneg_right hq.1 c2
  have w4 := Int.mul_le_mul_of_nonneg_right hq.2 c2
  have w5 : B * (3 * (256 - x) - (r + s)) + B * (3 * x + r + s) = 768 * B := by grind
  have w6 : -B * (3 * (256 - x) - (r + s)) + -B * (3 * x + r + s) = -(768 * B) := by grind
  generalize hW : p * (3 * (256 - x) - (r + s)) + q * (3 * x + r + s) = W at hD
  have hW1 : -(768 * B) ≤ W := by omega
  have hW2 : W ≤ 768 * B := by omega
  have hB0 : 0 ≤ B := by omega
  -- the middle
  have g0 : 0 ≤ r * (s - r) := Int.mul_nonneg hr (by omega)
  have g1 : 4 * (r * (s - r)) ≤ s * s := by
    have h0 : 0 ≤ (s - 2 * r) * (s - 2 * r) := by
      rcases Int.le_total 0 (s - 2 * r) with h | h
      · exact Int.mul_nonneg h h
      · exact Int.mul_nonneg_of_nonpos_of_nonpos h h
    have h1 : (s - 2 * r) * (s - 2 * r) = s * s - 4 * (r * (s - r)) := by grind
    omega
  generalize r * (s - r) = g at hD g0 g1
  have g2 : 4 * (g * B) ≤ s * s * B := by
    have := Int.mul_le_mul_of_nonneg_right g1 hB0
    have e : 4 * g * B = 4 * (g * B) := by grind
    omega
  have g3 : s * s * B ≤ 536870912 := by
    have h1 : 0 ≤ s * s := Int.mul_nonneg hs hs
    have h2 := Int.mul_le_mul_of_nonneg_left hB h1
    have h3 : s * s * (8192 * (n * n)) = 8192 * ((n * s) * (n * s)) := by grind
    rw [hns] at h3
    omega
  have g4 : g * B ≤ 134217728 := by omega
  have k1 := Int.mul_le_mul_of_nonneg_left hW1 g0
  have k2 := Int.mul_le_mul_of_nonneg_left hW2 g0
  have k3 : g * (768 * B) = 768 * (g * B) := by grind
  have k4 : g * -(768 * B) = -(768 * (g * B)) := by grind
  have k5 : g * W ≤ 103079215104 := by omega
  have k6 : -103079215104 ≤ g * W := by omega
  have m1 := Int.mul_le_mul_of_nonneg_left k5 hs
  have m2 := Int.mul_le_mul_of_nonneg_left k6 hs
  have m3 : -(s * g) * W = -(s * (g * W)) := by grind
  rw [m3] at hD
  -- rounding, weighted
  have v1 := Int.mul_le_mul_of_nonneg_right hv.1 hs
  have v2 := Int.mul_le_mul_of_nonneg_right hv.2 hs
  have hsr : 0 ≤ s - r := by omega
  have u1 := Int.mul_le_mul_of_nonneg_right hu.1 hsr
  have u2 := Int.mul_le_mul_of_nonneg_right hu.2 hsr
  have z1 := Int.mul_le_mul_of_nonneg_right hw.1 hr
  have z2 := Int.mul_le_mul_of_nonneg_right hw.2 hr
  have t0 : (v - u) * s - (w - u) * r = v * s - u * (s - r) - w * r := by grind
  have t1 : (2 * F1 - 16777216) * s = 2 * (F1 * s) - 16777216 * s := by grind
  have t2 : (2 * F1 + 16777216) * s = 2 * (F1 * s) + 16777216 * s := by grind
  have t3 : (2 * F0 - 16777216) * (s - r) = 2 * (F0 * (s - r)) - 16777216 * (s - r) := by grind
  have t4 : (2 * F0 + 16777216) * (s - r) = 2 * (F0 * (s - r)) + 16777216 * (s - r) := by grind
  have t5 : (2 * F2 - 16777216) * r = 2 * (F2 * r) - 16777216 * r := by grind
  have t6 : (2 * F2 + 16777216) * r = 2 * (F2 * r) + 16777216 * r := by grind
  have t7 : 33554432 * v * s = 33554432 * (v * s) := by grind
  have t8 : 33554432 * u * (s - r) = 33554432 * (u * (s - r)) := by grind
  have t9 : 33554432 * w * r = 33554432 * (w * r) := by grind
  rw [t0]
  omega

end

section
set_option maxRecDepth 20000
attribute [local go_sem] clPts
theorem fine_le (m : Int) (h : m ≤ 536870912) : m ≤ 8192 * 4 ^ fineW m := by
  by_cases h8 : fineW m < 8
  · have hlt : (List.range 8).findIdx (fun k => decide (m ≤ 8192 * 4 ^ k)) < (List.range 8).length := by simpa [fineW] using h8
    have := List.findIdx_getElem (w := hlt)
    simp only [List.getElem_range, decide_eq_true_eq] at this
    exact this
  · have : fineW m = 8 := by have := fineW_le m; omega
    rw [this]
    omega
theorem sec_le (a b c d : Int) (ha : inC a = true) (hb : inC b = true) (hc : inC c = true) (hd : inC d = true) :
    (-bendsW a b c d ≤ a - 2 * b + c ∧ a - 2 * b + c ≤ bendsW a b c d) ∧ (-bendsW a b c d ≤ b - 2 * c + d ∧ b - 2 * c + d ≤ bendsW a b c d) := by
  rw [inC_iff] at ha hb hc hd
  have s1 : secW a b c = a - 2 * b + c := by
    simp only [secW, wr_add_l, wr_sub_r]
    exact wr_in (by omega) (by omega)
  have s2 : secW b c d = b - 2 * c + d := by
    simp only [secW, wr_add_l, wr_sub_r]
    exact wr_in (by omega) (by omega)
  unfold bendsW
  rw [s1, s2, wr_in (x := 0 - (a - 2 * b + c)) (by omega) (by omega), wr_in (x := 0 - (b - 2 * c + d)) (by omega) (by omega)]
  omega
theorem pow48 (k : Nat) (h : k ≤ 8) : (4 : Int) ^ k = ((2 ^ k : Nat) : Int) * ((2 ^ k : Nat) : Int) := by
  match k, h with
  | 0, _ => decide
  | 1, _ => decide
  | 2, _ => decide
  | 3, _ => decide
  | 4, _ => decide
  | 5, _ => decide
  | 6, _ => decide
  | 7, _ => decide
  | 8, _ => decide
  | k + 9, h => omega
theorem stp (k : Nat) (h : k ≤ 8) : ((256 : Int).tmod ((2 ^ k : Nat) : Int) = 0) ∧ wr ((256 : Int).tdiv ((2 ^ k : Nat) : Int)) = ((2 ^ (8 - k) : Nat) : Int) ∧ 2 ^ k * 2 ^ (8 - k) = 256 := by
  match k, h with
  | 0, _ => decide
  | 1, _ => decide
  | 2, _ => decide
  | 3, _ => decide
  | 4, _ => decide
  | 5, _ => decide
  | 6, _ => decide
  | 7, _ => decide
  | 8, _ => decide
  | k + 9, h => omega
theorem near_true (v a b r n D E : Int) (hD : wr (10 * wr (wr (wr (v - a) * n) - wr (wr (b - a) * r))) = D) (hE : wr (65546 * n) = E) (hE' : wr (-65546 * n) = -E) (h1 : -E ≤ D) (h2 : D ≤ E) :
    PFun Try.prog 26 [I v, I a, I b, I r, I n] (Bo true) := by
  refine PFun.intro 400 mixed Try.func26 (by kernel_rfl) rfl (by first | exact .v _ | (simp [Cl_v, Cl_t, Cl_g, Cl_fn, Cl_rp, Cl_ro]; done) | (simp [Cl_v, Cl_t, Cl_g, Cl_fn, Cl_rp, Cl_ro, or_imp, forall_and]; done) | (split <;> simp [Cl_v, Cl_t, Cl_g, Cl_fn, Cl_rp, Cl_ro])) (Nat.le_of_ble_eq_true rfl) ?_; rw [Try.ntmps26, Try.results26]
  simp (config := {maxSteps := 1000000, dsimp := false, implicitDefEqProofs := false}) only [go_sem, ↓reduceIte, Nat.reduceAdd, Nat.reduceSub, Nat.reduceMul, Nat.reduceLT, Nat.reduceLeDiff, Nat.reduceEqDiff, Nat.reduceBEq, Nat.reduceBNe, Int.reduceToNat, Int.reduceLT, Int.reduceLE, Int.reduceNeg, reduceCtorEq, Int.reduceEq, Int.reduceNe, Bool.false_eq_true, decide_true, decide_false, beq_self_eq_true, true_and, and_true, ne_eq, not_true, not_false_eq_true, List.elem_cons, List.elem_nil, List.contains_cons, List.contains_nil, List.getD_cons_zero, List.getD_cons_succ, Int.cast_ofNat_Int, Bool.or_true, Bool.true_or, Bool.or_false, Bool.false_or, hD, hE, hE', h1, h2]
/-- One coordinate of a point, near the straight line. -/
theorem near_at (a b c d : Int) (i K s n : Nat) (B : Int) (ha : inC a = true) (hb : inC b = true) (hc : inC c = true) (hd : inC d = true) (hns : n * s = 256) (hK : K + 1 ≤ n) (h0 : K * s ≤ i) (h1 : i ≤ K * s + s)
    (hB : B ≤ 8192 * ((n : Int) * n)) (hB' : bendsW a b c d ≤ B) :
    PFun Try.prog 26 [I (atW a b c d i 256), I (atW a b c d K n), I (atW a b c d (K + 1 : Nat) n), I ((i - K * s : Nat) : Int), I s] (Bo true) := by
  have hns' : (n : Int) * (s : Int) = 256 := by rw [← Int.natCast_mul, hns]; rfl
  have hs1 : 1 ≤ s := by
    rcases Nat.eq_zero_or_pos s with h | h
    · subst h; simp at hns
    · exact h
  have hs2 : s ≤ 256 := by
    have := Nat.mul_le_mul_right s (show 1 ≤ n by omega)
    omega
  have hKs : K * s + s ≤ 256 := by
    have := Nat.mul_le_mul_right s hK
    rw [Nat.succ_mul] at this
    omega
  have e1 := at_hom a b c d K n s ha hb hc hd (by omega) hns' (by omega) (by omega) (by omega)
  have e2 := at_hom a b c d (K + 1 : Nat) n s ha hb hc hd (by omega) hns' (by omega) (by omega) (by omega)
  have c1 : (K : Int) * (s : Int) = ((K * s : Nat) : Int) := by simp
  have c2 : ((K + 1 : Nat) : Int) * (s : Int) = ((K * s : Nat) : Int) + (s : Int) := by rw [Int.natCast_mul, Int.natCast_add, Int.add_mul]; simp
  rw [c1] at e1
  rw [c2] at e2
  have hsl := sec_le a b c d ha hb hc hd
  have hd := dev a b c d (K * s : Nat) (i - K * s : Nat) s n B ha hb hc hd (by omega) (by omega) (by omega) (by omega) hns' hB (by omega) (by omega)
  have hi : ((K * s : Nat) : Int) + ((i - K * s : Nat) : Int) = (i : Int) := by omega
  rw [hi] at hd
  rw [e1, e2]
  generalize atW a b c d i 256 = v at *
  generalize atW a b c d (K * s : Nat) 256 = u at *
  generalize atW a b c d (((K * s : Nat) : Int) + (s : Int)) 256 = w at *
  generalize ((i - K * s : Nat) : Int) = r at *
  refine near_true v u w r s (10 * ((v - u) * s - (w - u) * r)) (65546 * s) ?_ (wr_in (by omega) (by omega)) ?_ (by omega) (by omega)
  · simp only [wr_mul_l, wr_mul_r, wr_sub_l, wr_sub_r]
    exact wr_in (by omega) (by omega)
  · rw [wr_in (by omega) (by omega)]; omega
theorem flatNear (a b c d : Int × Int) : PFun Try.prog 7 [Seg a b c d] (Bo true) := by
  refine PFun.intro 400 mixed Try.func7 (by kernel_rfl) rfl (by first | exact .v _ | (simp [Cl_v, Cl_t, Cl_g, Cl_fn, Cl_rp, Cl_ro]; done) | (simp [Cl_v, Cl_t, Cl_g, Cl_fn, Cl_rp, Cl_ro, or_imp, forall_and]; done) | (split <;> simp [Cl_v, Cl_t, Cl_g, Cl_fn, Cl_rp, Cl_ro])) (Nat.le_of_ble_eq_true rfl) ?_; rw [Try.ntmps7, Try.results7]
  simp (config := {maxSteps := 1000000, dsimp := false, implicitDefEqProofs := false}) only [go_sem, ↓reduceIte, Nat.reduceAdd, Nat.reduceSub, Nat.reduceMul, Nat.reduceLT, Nat.reduceLeDiff, Nat.reduceEqDiff, Nat.reduceBEq, Nat.reduceBNe, Int.reduceToNat, Int.reduceLT, Int.reduceLE, Int.reduceNeg, reduceCtorEq, Int.reduceEq, Int.reduceNe, Bool.false_eq_true, decide_true, decide_false, beq_self_eq_true, true_and, and_true, ne_eq, not_true, not_false_eq_true, List.elem_cons, List.elem_nil, List.contains_cons, List.contains_nil, List.getD_cons_zero, List.getD_cons_succ, Int.cast_ofNat_Int, Bool.or_true, Bool.true_or, Bool.or_false, Bool.false_or]
  have f1 := Segment a b c d
  by_cases hc : (inP a && (inP b && (inP c && inP d))) = true
  · rw [if_pos hc] at f1
    refine AtFn.pure0 f1 ?_
    simp (config := {maxSteps := 1000000, dsimp := false, implicitDefEqProofs := false}) only [go_sem, ↓reduceIte, Nat.reduceAdd, Nat.reduceSub, Nat.reduceMul, Nat.reduceLT, Nat.reduceLeDiff, Nat.reduceEqDiff, Nat.reduceBEq, Nat.reduceBNe, Int.reduceToNat, Int.reduceLT, Int.reduceLE, Int.reduceNeg, reduceCtorEq, Int.reduceEq, Int.reduceNe, Bool.false_eq_true, decide_true, decide_false, beq_self_eq_true, true_and, and_true, ne_eq, not_true, not_false_eq_true, List.elem_cons, List.elem_nil, List.contains_cons, List.contains_nil, List.getD_cons_zero, List.getD_cons_succ, Int.cast_ofNat_Int, Bool.or_true, Bool.true_or, Bool.or_false, Bool.false_or]
    refine AtFn.pure0 (Bend a b c d) ?_
    simp (config := {maxSteps := 1000000, dsimp := false, implicitDefEqProofs := false}) only [go_sem, ↓reduceIte, Nat.reduceAdd, Nat.reduceSub, Nat.reduceMul, Nat.reduceLT, Nat.reduceLeDiff, Nat.reduceEqDiff, Nat.reduceBEq, Nat.reduceBNe, Int.reduceToNat, Int.reduceLT, Int.reduceLE, Int.reduceNeg, reduceCtorEq, Int.reduceEq, Int.reduceNe, Bool.false_eq_true, decide_true, decide_false, beq_self_eq_true, true_and, and_true, ne_eq, not_true, not_false_eq_true, List.elem_cons, List.elem_nil, List.contains_cons, List.contains_nil, List.getD_cons_zero, List.getD_cons_succ, Int.cast_ofNat_Int, Bool.or_true, Bool.true_or, Bool.or_false, Bool.false_or]
    refine ⟨fun h => ?_, fun h => ?_⟩
    · refine AtFn.pure0 awake ?_
      simp (config := {maxSteps := 1000000, dsimp := false, implicitDefEqProofs := false}) only [go_sem, ↓reduceIte, Nat.reduceAdd, Nat.reduceSub, Nat.reduceMul, Nat.reduceLT, Nat.reduceLeDiff, Nat.reduceEqDiff, Nat.reduceBEq, Nat.reduceBNe, Int.reduceToNat, Int.reduceLT, Int.reduceLE, Int.reduceNeg, reduceCtorEq, Int.reduceEq, Int.reduceNe, Bool.false_eq_true, decide_true, decide_false, beq_self_eq_true, true_and, and_true, ne_eq, not_true, not_false_eq_true, List.elem_cons, List.elem_nil, List.contains_cons, List.contains_nil, List.getD_cons_zero, List.getD_cons_succ, Int.cast_ofNat_Int, Bool.or_true, Bool.true_or, Bool.or_false, Bool.false_or]
    · have hl := segW_len a b c d
      have hp := fineN_le a b c d
      have h8 := fineN_le8 a b c d
      have hst := stp (fineN a b c d) h8
      have hn1 : 1 ≤ 2 ^ fineN a b c d := Nat.one_le_two_pow
      have q0 : wr (((2 ^ fineN a b c d + 1 : Nat) : Int) - 1) = ((2 ^ fineN a b c d : Nat) : Int) := predW _ (by omega)
      have q1 : ¬ ((2 ^ fineN a b c d : Nat) : Int) < 1 := by omega
      simp (config := {maxSteps := 1000000, dsimp := false, implicitDefEqProofs := false}) only [go_sem, ↓reduceIte, Nat.reduceAdd, Nat.reduceSub, Nat.reduceMul, Nat.reduceLT, Nat.reduceLeDiff, Nat.reduceEqDiff, Nat.reduceBEq, Nat.reduceBNe, Int.reduceToNat, Int.reduceLT, Int.reduceLE, Int.reduceNeg, reduceCtorEq, Int.reduceEq, Int.reduceNe, Bool.false_eq_true, decide_true, decide_false, beq_self_eq_true, true_and, and_true, ne_eq, not_true, not_false_eq_true, List.elem_cons, List.elem_nil, List.contains_cons, List.contains_nil, List.getD_cons_zero, List.getD_cons_succ, Int.cast_ofNat_Int, Bool.or_true, Bool.true_or, Bool.or_false, Bool.false_or, List.length_map, hl, q0, q1, hst.1, hst.2.1]
      refine fun _ => ⟨by omega, fun _ => ⟨by omega, ?_⟩⟩
      have hns := hst.2.2
      have hseg : ∀ j : Nat, j < 2 ^ fineN a b c d + 1 → (segW a b c d)[j]? = some (ptW a b c d j (2 ^ fineN a b c d : Nat)) := by
        intro j hj
        simp only [segW, List.getElem?_map, List.getElem?_range hj, Option.map_some]
      have hB : bend2 a b c d ≤ 8192 * (((2 ^ fineN a b c d : Nat) : Int) * ((2 ^ fineN a b c d : Nat) : Int)) := by
        rw [← pow48 _ h8]
        exact fine_le _ (by rw [← bend_eq]; omega)
      have hB1 : bendsW a.1 b.1 c.1 d.1 ≤ bend2 a b c d := by unfold bend2; omega
      have hB2 : bendsW a.2 b.2 c.2 d.2 ≤ bend2 a b c d := by unfold bend2; omega
      clear hst q0
      generalize 2 ^ fineN a b c d = n at *
      generalize 2 ^ (8 - fineN a b c d) = s at *
      simp only [Bool.and_eq_true, inP_iff] at hc
      have hs1 : 1 ≤ s := by
        rcases Nat.eq_zero_or_pos s with h | h
        · subst h; simp at hns
        · exact h
      refine ⟨{i : Nat // i ≤ 257}, fun i => ⟨120, tl [(1, .ptr 0 0 0), (3, Pts (segW a b c d)), (5, I n), (6, I s), (51, I i.1)], [(0, ⟨8, [[I a.1, I a.2, I b.1, I b.2, I c.1, I c.2, I d.1, I d.2]]⟩)], 1, .nil⟩, fun i => 257 - i.1,
        ⟨⟨0, by omega⟩, Le.tl (Ls := []) (y := none) [] ?_ ?_ (by simp) (by simp [sg]) trivial⟩, fun i => ?_⟩
      · simp (config := {maxSteps := 1000000, dsimp := false, implicitDefEqProofs := false}) only [go_sem, ↓reduceIte, Nat.reduceAdd, Nat.reduceSub, Nat.reduceMul, Nat.reduceLT, Nat.reduceLeDiff, Nat.reduceEqDiff, Nat.reduceBEq, Nat.reduceBNe, Int.reduceToNat, Int.reduceLT, Int.reduceLE, Int.reduceNeg, reduceCtorEq, Int.reduceEq, Int.reduceNe, Bool.false_eq_true, decide_true, decide_false, beq_self_eq_true, true_and, and_true, ne_eq, not_true, not_false_eq_true, List.elem_cons, List.elem_nil, List.contains_cons, List.contains_nil, List.getD_cons_zero, List.getD_cons_succ, Int.cast_ofNat_Int, Bool.or_true, Bool.true_or, Bool.or_false, Bool.false_or]
      · simp (config := {maxSteps := 1000000, dsimp := false, implicitDefEqProofs := false}) only [go_sem, ↓reduceIte, Nat.reduceAdd, Nat.reduceSub, Nat.reduceMul, Nat.reduceLT, Nat.reduceLeDiff, Nat.reduceEqDiff, Nat.reduceBEq, Nat.reduceBNe, Int.reduceToNat, Int.reduceLT, Int.reduceLE, Int.reduceNeg, reduceCtorEq, Int.reduceEq, Int.reduceNe, Bool.false_eq_true, decide_true, decide_false, beq_self_eq_true, true_and, and_true, ne_eq, not_true, not_false_eq_true, List.elem_cons, List.elem_nil, List.contains_cons, List.contains_nil, List.getD_cons_zero, List.getD_cons_succ, Int.cast_ofNat_Int, Bool.or_true, Bool.true_or, Bool.or_false, Bool.false_or]
        exact renL_cl rfl (by simp (config := {maxSteps := 1000000, dsimp := false, implicitDefEqProofs := false}) only [go_sem, ↓reduceIte, Nat.reduceAdd, Nat.reduceSub, Nat.reduceMul, Nat.reduceLT, Nat.reduceLeDiff, Nat.reduceEqDiff, Nat.reduceBEq, Nat.reduceBNe, Int.reduceToNat, Int.reduceLT, Int.reduceLE, Int.reduceNeg, reduceCtorEq, Int.reduceEq, Int.reduceNe, Bool.false_eq_true, decide_true, decide_false, beq_self_eq_true, true_and, and_true, ne_eq, not_true, not_false_eq_true, List.elem_cons, List.elem_nil, List.contains_cons, List.contains_nil, List.getD_cons_zero, List.getD_cons_succ, Int.cast_ofNat_Int, Bool.or_true, Bool.true_or, Bool.or_false, Bool.false_or])
      · obtain ⟨i, hi⟩ := i
        simp (config := {maxSteps := 1000000, dsimp := false, implicitDefEqProofs := false}) only [go_sem, ↓reduceIte, Nat.reduceAdd, Nat.reduceSub, Nat.reduceMul, Nat.reduceLT, Nat.reduceLeDiff, Nat.reduceEqDiff, Nat.reduceBEq, Nat.reduceBNe, Int.reduceToNat, Int.reduceLT, Int.reduceLE, Int.reduceNeg, reduceCtorEq, Int.reduceEq, Int.reduceNe, Bool.false_eq_true, decide_true, decide_false, beq_self_eq_true, true_and, and_true, ne_eq, not_true, not_false_eq_true, List.elem_cons, List.elem_nil, List.contains_cons, List.contains_nil, List.getD_cons_zero, List.getD_cons_succ, Int.cast_ofNat_Int, Bool.or_true, Bool.true_or, Bool.or_false, Bool.false_or]
        refine ⟨fun h => ?_, fun h => ?_⟩
        · have f2 := At a b c d i 256
          rw [if_pos (by unfold okAt; simp only [Bool.and_eq_true, inP_iff]; exact ⟨hc, by omega, by omega, by omega, by omega⟩)] at f2
          have hK : min (i / s) (n - 1) + 1 ≤ n := by omega
          obtain ⟨K, hKd⟩ : ∃ K, K = min (i / s) (n - 1) := ⟨_, rfl⟩
          rw [← hKd] at hK
          have d1 : i / s * s ≤ i := Nat.div_mul_le_self i s
          have d2 : i < i / s * s + s := by have := Nat.lt_div_mul_add (a := i) (show 0 < s by omega); omega
          have k0 : K * s ≤ i := Nat.le_trans (Nat.mul_le_mul_right s (show K ≤ i / s by omega)) d1
          have k1 : i ≤ K * s + s := by
            rcases Nat.le_total (i / s) (n - 1) with hle | hle
            · have : K = i / s := by omega
              subst this; omega
            · have : K = n - 1 := by omega
              have e : K * s + s = n * s := by rw [← Nat.succ_mul]; congr 1; omega
              omega
          have e0 : wr ((i : Int).tdiv (s : Int)) = ((i / s : Nat) : Int) := by
            have : (i : Int).tdiv (s : Int) = ((i / s : Nat) : Int) := rfl
            have hle : i / s ≤ i := Nat.div_le_self i s
            rw [this, wr_in (by omega) (by omega)]
          have e00 : wr ((n : Int) - 1) = ((n - 1 : Nat) : Int) := by rw [wr_in] <;> omega
          have e1 : min (wr ((i : Int).tdiv (s : Int))) (wr ((n : Int) - 1)) = (K : Int) := by rw [e0, e00]; omega
          have e2 : wr ((K : Int) * (s : Int)) = ((K * s : Nat) : Int) := by rw [← Int.natCast_mul, wr_in (by omega) (by omega)]
          have e3 : wr ((i : Int) - ((K * s : Nat) : Int)) = ((i - K * s : Nat) : Int) := by rw [wr_in] <;> omega
          have e4 : wr ((K : Int) + 1) = ((K + 1 : Nat) : Int) := by rw [wr_in] <;> omega
          have n1 := near_at a.1 b.1 c.1 d.1 i K s n (bend2 a b c d) hc.1.1 hc.2.1.1 hc.2.2.1.1 hc.2.2.2.1 hns hK k0 k1 hB hB1
          have n2 := near_at a.2 b.2 c.2 d.2 i K s n (bend2 a b c d) hc.1.2 hc.2.1.2 hc.2.2.1.2 hc.2.2.2.2 hns hK k0 k1 hB hB2
          have g1 := hseg K (by omega)
          have g2 := hseg (K + 1) (by omega)
          refine AtFn.pure0 f2 ?_
          simp (config := {maxSteps := 1000000, dsimp := false, implicitDefEqProofs := false}) only [go_sem, ↓reduceIte, Nat.reduceAdd, Nat.reduceSub, Nat.reduceMul, Nat.reduceLT, Nat.reduceLeDiff, Nat.reduceEqDiff, Nat.reduceBEq, Nat.reduceBNe, Int.reduceToNat, Int.reduceLT, Int.reduceLE, Int.reduceNeg, reduceCtorEq, Int.reduceEq, Int.reduceNe, Bool.false_eq_true, decide_true, decide_false, beq_self_eq_true, true_and, and_true, ne_eq, not_true, not_false_eq_true, List.elem_cons, List.elem_nil, List.contains_cons, List.contains_nil, List.getD_cons_zero, List.getD_cons_succ, Int.cast_ofNat_Int, Bool.or_true, Bool.true_or, Bool.or_false, Bool.false_or, e1, e2, e3]
          refine ⟨by omega, ?_⟩
          refine AtCode.draw 40 [([], []), ([0], []), ([0, 1], []), ([0, 1, 2], []), ([0, 1, 2, 3], []), ([0, 1, 2], []), ([0, 1, 2], []), ([0, 1, 2, 5, 6], []), ([0, 1, 2, 5, 6, 7], []), ([0, 1, 2, 5, 6, 7, 8], []), ([0, 1, 2], []), ([0, 1, 2], []), ([0, 1, 2, 11], []), ([0, 1, 2, 10, 11, 12], []), ([0, 1, 2, 10, 11, 12, 13], []), ([0, 1, 2, 10, 11, 12, 13, 14], []), ([0, 1, 2], []), ([0, 1, 2], []), ([0, 1, 2, 3, 4, 5, 6, 7, 8, 9, 10, 11, 12, 13, 14, 15, 16, 17], []), ([0, 1, 2, 3, 4, 5, 6, 7, 8, 9, 10, 11, 12, 13, 14, 15, 16, 17, 18], []), ([0, 1, 2, 3, 4, 5, 6, 7, 8, 9, 10, 11, 12, 13, 14, 15, 16, 17, 18, 19], []), ([0, 1, 2, 3, 4, 5, 6, 7, 8, 9, 10, 11, 12, 13, 14, 15, 16, 17, 18, 19, 20], []), ([0, 1, 2, 3, 4, 5, 6, 7, 8, 9, 10, 11, 12, 13, 14, 15, 16, 17, 18, 19, 20, 21], []), ([0, 1, 2, 3, 4, 5, 6, 7, 8, 9, 10, 11, 12, 13, 14, 15, 16, 17, 18, 19, 20, 21, 22], []), ([0, 1, 2, 3, 4, 5, 6, 7, 8, 9, 10, 11, 12, 13, 14, 15, 16, 17, 18, 19, 20, 21], []), ([0, 1, 2, 3, 4, 5, 6, 7, 8, 9, 10, 11, 12, 13, 14, 15, 16, 17, 18, 19, 20, 21], []), ([0, 1, 2, 3, 4, 5, 6, 7, 8, 9, 10, 11, 12, 13, 14, 15, 16, 17, 18, 19, 20, 21, 24, 25], []), ([0, 1, 2, 3, 4, 5, 6, 7, 8, 9, 10, 11, 12, 13, 14, 15, 16, 17, 18, 19, 20, 21, 24, 25, 26], []), ([0, 1, 2, 3, 4, 5, 6, 7, 8, 9, 10, 11, 12, 13, 14, 15, 16, 17, 18, 19, 20, 21, 24, 25, 26, 27], []), ([0, 1, 2, 3, 4, 5, 6, 7, 8, 9, 10, 11, 12, 13, 14, 15, 16, 17, 18, 19, 20, 21], []), ([0, 1, 2, 3, 4, 5, 6, 7, 8, 9, 10, 11, 12, 13, 14, 15, 16, 17, 18, 19, 20, 21], []), ([0, 1, 2, 3, 4, 5, 6, 7, 8, 9, 10, 11, 12, 13, 14, 15, 16, 17, 18, 19, 20, 21, 30], []), ([0, 1, 2, 3, 4, 5, 6, 7, 8, 9, 10, 11, 12, 13, 14, 15, 16, 17, 18, 19, 20, 21, 29, 30, 31], []), ([0, 1, 2, 3, 4, 5, 6, 7, 8, 9, 10, 11, 12, 13, 14, 15, 16, 17, 18, 19, 20, 21, 29, 30, 31, 32], []), ([0, 1, 2, 3, 4, 5, 6, 7, 8, 9, 10, 11, 12, 13, 14, 15, 16, 17, 18, 19, 20, 21, 29, 30, 31, 32, 33], []), ([0, 1, 2, 3, 4, 5, 6, 7, 8, 9, 10, 11, 12, 13, 14, 15, 16, 17, 18, 19, 20, 21], []), ([0, 1, 2, 3, 4, 5, 6, 7, 8, 9, 10, 11, 12, 13, 14, 15, 16, 17, 18, 19, 20, 21], []), ([0, 1, 2, 3, 4, 5, 6, 7, 8, 9, 10, 11, 12, 13, 14, 15, 16, 17, 18, 19, 20, 21, 22, 23, 24, 25, 26, 27, 28, 29, 30, 31, 32, 33, 34, 35, 36], []), ([0, 1, 2, 3, 4, 5, 6, 7, 8, 9, 10, 11, 12, 13, 14, 15, 16, 17, 18, 19, 20, 21, 22, 23, 24, 25, 26, 27, 28, 29, 30, 31, 32, 33, 34, 35, 36, 37], []), ([0, 1, 2, 3, 4, 5, 6, 7, 8, 9, 10, 11, 12, 13, 14, 15, 16, 17, 18, 19, 20, 21, 22, 23, 24, 25, 26, 27, 28, 29, 30, 31, 32, 33, 34, 35, 36, 37, 38], [])] (by kernel_rfl) ?_
          simp (config := {maxSteps := 1000000, dsimp := false, implicitDefEqProofs := false}) only [go_sem, ↓reduceIte, Nat.reduceAdd, Nat.reduceSub, Nat.reduceMul, Nat.reduceLT, Nat.reduceLeDiff, Nat.reduceEqDiff, Nat.reduceBEq, Nat.reduceBNe, Int.reduceToNat, Int.reduceLT, Int.reduceLE, Int.reduceNeg, reduceCtorEq, Int.reduceEq, Int.reduceNe, Bool.false_eq_true, decide_true, decide_false, beq_self_eq_true, true_and, and_true, ne_eq, not_true, not_false_eq_true, List.elem_cons, List.elem_nil, List.contains_cons, List.contains_nil, List.getD_cons_zero, List.getD_cons_succ, Int.cast_ofNat_Int, Bool.or_true, Bool.true_or, Bool.or_false, Bool.false_or, e4, g1, g2, List.getElem?_map, Int.natCast_nonneg, Int.toNat_natCast, List.length_map]
          refine QFn.use _ n1 (by simp (config := {maxSteps := 1000000, dsimp := false, implicitDefEqProofs := false}) only [go_sem, ↓reduceIte, Nat.reduceAdd, Nat.reduceSub, Nat.reduceMul, Nat.reduceLT, Nat.reduceLeDiff, Nat.reduceEqDiff, Nat.reduceBEq, Nat.reduceBNe, Int.reduceToNat, Int.reduceLT, Int.reduceLE, Int.reduceNeg, reduceCtorEq, Int.reduceEq, Int.reduceNe, Bool.false_eq_true, decide_true, decide_false, beq_self_eq_true, true_and, and_true, ne_eq, not_true, not_false_eq_true, List.elem_cons, List.elem_nil, List.contains_cons, List.contains_nil, List.getD_cons_zero, List.getD_cons_succ, Int.cast_ofNat_Int, Bool.or_true, Bool.true_or, Bool.or_false, Bool.false_or]) ?_
          simp (config := {maxSteps := 1000000, dsimp := false, implicitDefEqProofs := false}) only [go_sem, ↓reduceIte, Nat.reduceAdd, Nat.reduceSub, Nat.reduceMul, Nat.reduceLT, Nat.reduceLeDiff, Nat.reduceEqDiff, Nat.reduceBEq, Nat.reduceBNe, Int.reduceToNat, Int.reduceLT, Int.reduceLE, Int.reduceNeg, reduceCtorEq, Int.reduceEq, Int.reduceNe, Bool.false_eq_true, decide_true, decide_false, beq_self_eq_true, true_and, and_true, ne_eq, not_true, not_false_eq_true, List.elem_cons, List.elem_nil, List.contains_cons, List.contains_nil, List.getD_cons_zero, List.getD_cons_succ, Int.cast_ofNat_Int, Bool.or_true, Bool.true_or, Bool.or_false, Bool.false_or, e4, g1, g2, List.getElem?_map, Int.natCast_nonneg, Int.toNat_natCast, List.length_map]
          refine QFn.use _ n2 (by simp (config := {maxSteps := 1000000, dsimp := false, implicitDefEqProofs := false}) only [go_sem, ↓reduceIte, Nat.reduceAdd, Nat.reduceSub, Nat.reduceMul, Nat.reduceLT, Nat.reduceLeDiff, Nat.reduceEqDiff, Nat.reduceBEq, Nat.reduceBNe, Int.reduceToNat, Int.reduceLT, Int.reduceLE, Int.reduceNeg, reduceCtorEq, Int.reduceEq, Int.reduceNe, Bool.false_eq_true, decide_true, decide_false, beq_self_eq_true, true_and, and_true, ne_eq, not_true, not_false_eq_true, List.elem_cons, List.elem_nil, List.contains_cons, List.contains_nil, List.getD_cons_zero, List.getD_cons_succ, Int.cast_ofNat_Int, Bool.or_true, Bool.true_or, Bool.or_false, Bool.false_or]) ?_
          simp (config := {maxSteps := 1000000, dsimp := false, implicitDefEqProofs := false}) only [go_sem, ↓reduceIte, Nat.reduceAdd, Nat.reduceSub, Nat.reduceMul, Nat.reduceLT, Nat.reduceLeDiff, Nat.reduceEqDiff, Nat.reduceBEq, Nat.reduceBNe, Int.reduceToNat, Int.reduceLT, Int.reduceLE, Int.reduceNeg, reduceCtorEq, Int.reduceEq, Int.reduceNe, Bool.false_eq_true, decide_true, decide_false, beq_self_eq_true, true_and, and_true, ne_eq, not_true, not_false_eq_true, List.elem_cons, List.elem_nil, List.contains_cons, List.contains_nil, List.getD_cons_zero, List.getD_cons_succ, Int.cast_ofNat_Int, Bool.or_true, Bool.true_or, Bool.or_false, Bool.false_or]
          refine ⟨⟨i + 1, by omega⟩, by show 257 - (i + 1) < 257 - i; omega, Le.tl (Ls := []) (y := none) [] ?_ ?_ (by simp) (by simp [sg]) trivial⟩
          · simp (config := {maxSteps := 1000000, dsimp := false, implicitDefEqProofs := false}) only [go_sem, ↓reduceIte, Nat.reduceAdd, Nat.reduceSub, Nat.reduceMul, Nat.reduceLT, Nat.reduceLeDiff, Nat.reduceEqDiff, Nat.reduceBEq, Nat.reduceBNe, Int.reduceToNat, Int.reduceLT, Int.reduceLE, Int.reduceNeg, reduceCtorEq, Int.reduceEq, Int.reduceNe, Bool.false_eq_true, decide_true, decide_false, beq_self_eq_true, true_and, and_true, ne_eq, not_true, not_false_eq_true, List.elem_cons, List.elem_nil, List.contains_cons, List.contains_nil, List.getD_cons_zero, List.getD_cons_succ, Int.cast_ofNat_Int, Bool.or_true, Bool.true_or, Bool.or_false, Bool.false_or]
            rw [wr_in (by omega) (by omega)]
            rfl
          · simp (config := {maxSteps := 1000000, dsimp := false, implicitDefEqProofs := false}) only [go_sem, ↓reduceIte, Nat.reduceAdd, Nat.reduceSub, Nat.reduceMul, Nat.reduceLT, Nat.reduceLeDiff, Nat.reduceEqDiff, Nat.reduceBEq, Nat.reduceBNe, Int.reduceToNat, Int.reduceLT, Int.reduceLE, Int.reduceNeg, reduceCtorEq, Int.reduceEq, Int.reduceNe, Bool.false_eq_true, decide_true, decide_false, beq_self_eq_true, true_and, and_true, ne_eq, not_true, not_false_eq_true, List.elem_cons, List.elem_nil, List.contains_cons, List.contains_nil, List.getD_cons_zero, List.getD_cons_succ, Int.cast_ofNat_Int, Bool.or_true, Bool.true_or, Bool.or_false, Bool.false_or]
            exact renL_cl rfl (by simp (config := {maxSteps := 1000000, dsimp := false, implicitDefEqProofs := false}) only [go_sem, ↓reduceIte, Nat.reduceAdd, Nat.reduceSub, Nat.reduceMul, Nat.reduceLT, Nat.reduceLeDiff, Nat.reduceEqDiff, Nat.reduceBEq, Nat.reduceBNe, Int.reduceToNat, Int.reduceLT, Int.reduceLE, Int.reduceNeg, reduceCtorEq, Int.reduceEq, Int.reduceNe, Bool.false_eq_true, decide_true, decide_false, beq_self_eq_true, true_and, and_true, ne_eq, not_true, not_false_eq_true, List.elem_cons, List.elem_nil, List.contains_cons, List.contains_nil, List.getD_cons_zero, List.getD_cons_succ, Int.cast_ofNat_Int, Bool.or_true, Bool.true_or, Bool.or_false, Bool.false_or])
        · refine AtFn.pure0 awake ?_
          simp (config := {maxSteps := 1000000, dsimp := false, implicitDefEqProofs := false}) only [go_sem, ↓reduceIte, Nat.reduceAdd, Nat.reduceSub, Nat.reduceMul, Nat.reduceLT, Nat.reduceLeDiff, Nat.reduceEqDiff, Nat.reduceBEq, Nat.reduceBNe, Int.reduceToNat, Int.reduceLT, Int.reduceLE, Int.reduceNeg, reduceCtorEq, Int.reduceEq, Int.reduceNe, Bool.false_eq_true, decide_true, decide_false, beq_self_eq_true, true_and, and_true, ne_eq, not_true, not_false_eq_true, List.elem_cons, List.elem_nil, List.contains_cons, List.contains_nil, List.getD_cons_zero, List.getD_cons_succ, Int.cast_ofNat_Int, Bool.or_true, Bool.true_or, Bool.or_false, Bool.false_or]
  · rw [if_neg hc] at f1
    refine AtFn.pure0 f1 ?_
    simp (config := {maxSteps := 1000000, dsimp := false, implicitDefEqProofs := false}) only [go_sem, ↓reduceIte, Nat.reduceAdd, Nat.reduceSub, Nat.reduceMul, Nat.reduceLT, Nat.reduceLeDiff, Nat.reduceEqDiff, Nat.reduceBEq, Nat.reduceBNe, Int.reduceToNat, Int.reduceLT, Int.reduceLE, Int.reduceNeg, reduceCtorEq, Int.reduceEq, Int.reduceNe, Bool.false_eq_true, decide_true, decide_false, beq_self_eq_true, true_and, and_true, ne_eq, not_true, not_false_eq_true, List.elem_cons, List.elem_nil, List.contains_cons, List.contains_nil, List.getD_cons_zero, List.getD_cons_succ, Int.cast_ofNat_Int, Bool.or_true, Bool.true_or, Bool.or_false, Bool.false_or]
    refine AtFn.pure0 awake ?_
    simp (config := {maxSteps := 1000000, dsimp := false, implicitDefEqProofs := false}) only [go_sem, ↓reduceIte, Nat.reduceAdd, Nat.reduceSub, Nat.reduceMul, Nat.reduceLT, Nat.reduceLeDiff, Nat.reduceEqDiff, Nat.reduceBEq, Nat.reduceBNe, Int.reduceToNat, Int.reduceLT, Int.reduceLE, Int.reduceNeg, reduceCtorEq, Int.reduceEq, Int.reduceNe, Bool.false_eq_true, decide_true, decide_false, beq_self_eq_true, true_and, and_true, ne_eq, not_true, not_false_eq_true, List.elem_cons, List.elem_nil, List.contains_cons, List.contains_nil, List.getD_cons_zero, List.getD_cons_succ, Int.cast_ofNat_Int, Bool.or_true, Bool.true_or, Bool.or_false, Bool.false_or]

end

end Go.Proofs.Ytdhdopmjaibggaa
