/- What functions of the given program answer, part 5. Conditions: each theorem speaks for itself. -/
import Derived.Test.YtdhdopmjaibggaaBTy
import Derived.Test.YtdhdopmjaibggaaBE6
import Derived.Test.YtdhdopmjaibggaaBF1
import Derived.Test.YtdhdopmjaibggaaBF2
import Derived.Test.YtdhdopmjaibggaaBF3
import Derived.Test.YtdhdopmjaibggaaBF4
set_option linter.unusedSimpArgs false
set_option linter.unusedVariables false
namespace Go.Proofs.Ytdhdopmjaibggaa
open Go Go.Eng Go.RowKit
attribute [local go_sem ↓] qE_move qE_assign qE_pick qE_load qE_fieldAddr qE_indexAddr qE_field qE_extract qE_binOp qE_neg qE_not qE_convert qE_makeFunc qE_build qE_len qE_max2 qE_min2 qE_max3 qE_min3 qE_max4 qE_nilCheck qE_slice vc_end vc_skip vc_label vc_ret vc_seq vc_cond vc_block vc_exit vc_region vc_draw vc_rangeFunc vc_loop vc_blk vc_lp vc_o_nil vc_o vc_o_guard onK_eq oK_move oK_assign oK_pick oK_load oK_fieldAddr oK_indexAddr oK_field oK_index oK_extract oK_binOp oK_unOp oK_convert oK_makeFunc oK_nilCheck oK_slice oK_build oK_len oK_max oK_min onN_eq oK_box oK_alloc oK_buildSlice oK_makeSlice onH_eq oK_store onA_eq oK_append oK_call oK_makeMap oK_lookup oK_mapUpdate oK_range oK_next oK_copy oK_clear bV_add bV_sub bV_mul bV_quo bV_rem bV_and bV_or bV_xor bV_shl bV_shr bV_eql bV_neq bV_lss bV_leq bV_gtr bV_geq bV_add_s bV_eql_s bV_neq_s vcQ_nil vcQ_cons vcQ_guard Q_move Q_assign Q_pick Q_load Q_fieldAddr Q_indexAddr Q_field Q_index Q_extract Q_binOp Q_unOp Q_convert Q_makeFunc Q_nilCheck Q_slice Q_build Q_len Q_max Q_min Q_box Q_alloc Q_buildSlice onQA_eq Q_append Q_call qE_index tailB_nil tailB_true onS_eq tailB_store onP_eq tailB_append onQ_eq onQB_eq loadE indexE
attribute [local go_sem] force_eq optK_some optK_none optE_some optE_none vK_v bK_v gK_g tK_t fnK_fn fyK_fn fyK_y nK_ptr nK_rp nK_fn pK_ptr pK_rp brK_true brK_false brK_not evA_tmp evA_const evA_func putA_some putA_none pushA_eq slots_zero slots_nil tl_nil tl_cons find_cons find_nil setN_cons setN_nil dropN_nil dropN_none dropN_cons loE_none loE_some hiE_none hiE_some slE_sl slE_ro slE_str bE_i bE_s bE_beq bE_bne bE_eql bE_neq intsA_nil intsA_cons gdK_b gdK_u popTo_blk popTo_c popTo_o popTo_lp srcE_ro srcE_sl srcE_ez srcE_nil srcE_str dstE_sl dstE_nil dstE_ez fin_eq res_nil res_tmp res_cell tup1 tup2 tup3 tup0 optA_some optA_none frz_v frz_ro frz_rp frz_ez nm_ez frz_unk frz_t frz_g frz_fn frz_ptr frz_sl optL_some optL_none nm_v nm_ro nm_rp nm_unk nm_t nm_g nm_fn nm_ptr nm_sl cells_v cells_g cells_ro cells_ez cells_rp cells_ptr cells_sl cells_fn one_int one_bool one_string one_slice one_pointer one_nilFunc oneA_v oneA_ro oneA_ez oneA_rp oneA_ptr oneA_sl oneA_fn ofV_int ofV_bool ofV_string ofV_slice ofV_nilFunc ofV_pointer ofV_agg len_ro len_ez len_sl len_nil asI_int fill_nil fill_cons chunks_nil chunks_cons take_all DrawK_eq tailT_leaf tailT_step tailT_both idR_eq addB_some roB_nil roB_cons dstQ_nil dstQ_ez sg_nil sg_cons ren_unk ren_v ren_nil ren_ptr ren_sl ren_ro ren_rp iK_ro iK_sl ixE_g ixE_s RfEnd_eq RfQ_eq RfBody_eq takeA_00 takeA_s rest_eq updL_cons updL_nil nil_eq maskE_eq wrap_wr brK_dec maskH_eq upd_get slots_succ Cl_v Cl_ro Cl_rp Cl_fn Cl_g Cl_t Cl_unk Cl_ez if_true if_false List.toList_toArray List.map_cons List.map_nil List.cons_append List.nil_append List.append_nil List.flatMap_cons List.flatMap_nil List.getElem?_cons_zero List.getElem?_cons_succ List.length_cons List.length_nil List.drop_succ_cons List.drop_zero List.take_succ_cons List.take_zero List.all_cons List.all_nil List.set_cons_zero List.set_cons_succ Option.bind_some Option.bind_none Option.map_some Option.map_none List.headD_cons List.tail_cons List.getElem?_toArray beq_true beq_false Bool.not_true Bool.not_false Bool.true_and Bool.and_true Bool.false_and Bool.and_false newCh List.replicate_succ List.replicate_zero Option.some.injEq exists_eq_left' sg_nil sg_cons List.mem_cons List.not_mem_nil forall_eq_or_imp forall_eq false_implies implies_true or_false false_or false_and and_false or_true true_or exists_false Option.isSome_some Option.isSome_none List.range_zero
attribute [local go_sem] T.sz2 T.by2 T.ag2 T.sl2 T.ar2 T.pt2 T.ik2 T.us2 T.ze2 T.sz3 T.by3 T.ag3 T.sl3 T.ar3 T.pt3 T.ik3 T.us3 T.ze3 T.sz4 T.by4 T.ag4 T.sl4 T.ar4 T.pt4 T.ik4 T.us4 T.bo4 T.ze4 T.sz5 T.by5 T.ag5 T.sl5 T.ar5 T.pt5 T.ik5 T.us5 T.ze5 T.sz6 T.by6 T.ag6 T.sl6 T.ar6 T.pt6 T.ik6 T.us6 T.ze6 T.sz7 T.by7 T.ag7 T.sl7 T.ar7 T.pt7 T.ik7 T.us7 T.ze7 T.fl7_0 T.fl7_1 T.fl7_2 T.fl7_3 T.bu7 T.sz8 T.by8 T.ag8 T.sl8 T.ar8 T.pt8 T.ik8 T.us8 T.ze8 T.fl8_0 T.fl8_1 T.fl8_2 T.fl8_3 T.bu8 T.sz9 T.by9 T.ag9 T.sl9 T.ar9 T.pt9 T.ik9 T.us9 T.st9 T.ze9 T.sz10 T.by10 T.ag10 T.sl10 T.ar10 T.pt10 T.ik10 T.us10 T.st10 T.ze10 T.sz11 T.by11 T.ag11 T.sl11 T.ar11 T.pt11 T.ik11 T.us11 T.st11 T.ze11 T.sz12 T.by12 T.ag12 T.sl12 T.ar12 T.pt12 T.ik12 T.us12 T.ze12 T.sz13 T.by13 T.ag13 T.sl13 T.ar13 T.pt13 T.ik13 T.us13 T.ze13 T.fl13_0 T.fl13_1 T.bu13 T.sz14 T.by14 T.ag14 T.sl14 T.ar14 T.pt14 T.ik14 T.us14 T.ze14 T.fl14_0 T.fl14_1 T.bu14 T.sz15 T.by15 T.ag15 T.sl15 T.ar15 T.pt15 T.ik15 T.us15 T.ze15 T.sz16 T.by16 T.ag16 T.sl16 T.ar16 T.pt16 T.ik16 T.us16 T.ze16 T.sz17 T.by17 T.ag17 T.sl17 T.ar17 T.pt17 T.ik17 T.us17 T.ze17 T.sz18 T.by18 T.ag18 T.sl18 T.ar18 T.pt18 T.ik18 T.us18 T.ze18 T.fl18_0 T.bu18 T.sz19 T.by19 T.ag19 T.sl19 T.ar19 T.pt19 T.ik19 T.us19 T.ze19 T.fl19_0 T.bu19 T.sz21 T.by21 T.ag21 T.sl21 T.ar21 T.pt21 T.ik21 T.us21 T.ze21 T.sz22 T.by22 T.ag22 T.sl22 T.ar22 T.pt22 T.ik22 T.us22 T.ze22 T.fl22_0 T.fl22_1 T.bu22 T.sz23 T.by23 T.ag23 T.sl23 T.ar23 T.pt23 T.ik23 T.us23 T.ze23 T.fl23_0 T.fl23_1 T.bu23 T.sz24 T.by24 T.ag24 T.sl24 T.ar24 T.pt24 T.ik24 T.us24 T.ze24 T.bu24 T.sz25 T.by25 T.ag25 T.sl25 T.ar25 T.pt25 T.ik25 T.us25 T.ze25 T.sz28 T.by28 T.ag28 T.sl28 T.ar28 T.pt28 T.ik28 T.us28 T.ze28 T.sz36 T.by36 T.ag36 T.sl36 T.ar36 T.pt36 T.ik36 T.us36 T.ze36 T.sz37 T.by37 T.ag37 T.sl37 T.ar37 T.pt37 T.ik37 T.us37 T.ze37 T.fl37_0 T.fl37_1 T.bu37 T.sz38 T.by38 T.ag38 T.sl38 T.ar38 T.pt38 T.ik38 T.us38 T.ze38 T.fl38_0 T.fl38_1 T.bu38 T.sz52 T.by52 T.ag52 T.sl52 T.ar52 T.pt52 T.ik52 T.us52 T.ze52 T.bu52 T.sz58 T.by58 T.ag58 T.sl58 T.ar58 T.pt58 T.ik58 T.us58 T.ze58 T.bu58 T.sz73 T.by73 T.ag73 T.sl73 T.ar73 T.pt73 T.ik73 T.us73 T.ze73 T.bu73 T.sz87 T.by87 T.ag87 T.sl87 T.ar87 T.pt87 T.ik87 T.us87 T.ze87 T.fl87_0 T.fl87_1 T.fl87_2 T.fl87_3 T.bu87 T.sz88 T.by88 T.ag88 T.sl88 T.ar88 T.pt88 T.ik88 T.us88 T.ze88 T.fl88_0 T.fl88_1 T.fl88_2 T.fl88_3 T.bu88 T.sz89 T.by89 T.ag89 T.sl89 T.ar89 T.pt89 T.ik89 T.us89 T.ze89 T.bu89 T.sz90 T.by90 T.ag90 T.sl90 T.ar90 T.pt90 T.ik90 T.us90 T.ze90 T.fl90_0 T.sz91 T.by91 T.ag91 T.sl91 T.ar91 T.pt91 T.ik91 T.us91 T.ze91 T.fl91_0 T.sz92 T.by92 T.ag92 T.sl92 T.ar92 T.pt92 T.ik92 T.us92 T.ze92 T.sz93 T.by93 T.ag93 T.sl93 T.ar93 T.pt93 T.ik93 T.us93 T.ze93 T.sz94 T.by94 T.ag94 T.sl94 T.ar94 T.pt94 T.ik94 T.us94 T.ze94 T.sz96 T.by96 T.ag96 T.sl96 T.ar96 T.pt96 T.ik96 T.us96 T.ze96 T.sz97 T.by97 T.ag97 T.sl97 T.ar97 T.pt97 T.ik97 T.us97 T.ze97 T.sz98 T.by98 T.ag98 T.sl98 T.ar98 T.pt98 T.ik98 T.us98 T.ze98 T.sz99 T.by99 T.ag99 T.sl99 T.ar99 T.pt99 T.ik99 T.us99 T.ze99 T.fl99_0 T.fl99_1 T.fl99_2 T.fl99_3 T.fl99_4 T.fl99_5 T.fl99_6 T.fl99_7 T.fl99_8 T.fl99_9 T.fl99_10 T.sz100 T.by100 T.ag100 T.sl100 T.ar100 T.pt100 T.ik100 T.us100 T.ze100 T.fl100_0 T.fl100_1 T.fl100_2 T.fl100_3 T.fl100_4 T.fl100_5 T.fl100_6 T.fl100_7 T.fl100_8 T.fl100_9 T.fl100_10 T.sz101 T.by101 T.ag101 T.sl101 T.ar101 T.pt101 T.ik101 T.us101 T.ze101
section
set_option maxRecDepth 20000
theorem eqA52 (d : Nat) (w : World) (x0 y0 x1 y1 x2 y2 x3 y3 : Int) :
    (Op.equalIn (d + 3) 52 (.agg #[.int .i64 x0, .int .i64 x1, .int .i64 x2, .int .i64 x3]) (.agg #[.int .i64 y0, .int .i64 y1, .int .i64 y2, .int .i64 y3])).run Try.prog w = .ok ((x0 == y0 && ((x1 == y1) && true)) && (x2 == y2 && ((x3 == y3) && true))) w := by
  have e1 := eqA23 d w x0 y0 x1 y1
  have e2 := eqA23 d w x2 y2 x3 y3
  have p1 : ∀ (a b c e : Int), (part 23 #[.int .i64 a, .int .i64 b, .int .i64 c, .int .i64 e] (0 * 2)).run Try.prog w = .ok (.agg #[.int .i64 a, .int .i64 b]) w := by intro a b c e; go_simp
  have p2 : ∀ (a b c e : Int), (part 23 #[.int .i64 a, .int .i64 b, .int .i64 c, .int .i64 e] (1 * 2)).run Try.prog w = .ok (.agg #[.int .i64 c, .int .i64 e]) w := by intro a b c e; go_simp
  have hs : (sizeOf 23).run Try.prog w = .ok 2 w := by go_simp
  rw [Op.equalIn]
  simp only [Sem.run_bind, run_underlying Try.underlying52, Result.andThen_ok, hs]
  rw [Std.Legacy.Range.forIn_eq_forIn_range']
  have hr : List.range' 0 2 = [0, 1] := rfl
  simp only [Std.Legacy.Range.size, List.forIn_cons, List.forIn_nil, Nat.reduceSub, Nat.reduceAdd, Nat.reduceDiv, Nat.sub_zero, Nat.add_one_sub_one, Nat.div_one, hr, Sem.run_bind, p1, p2, Result.andThen_ok, e1, e2]
  cases h1 : (x0 == y0 && ((x1 == y1) && true)) <;> cases h2 : (x2 == y2 && ((x3 == y3) && true)) <;> simp_all [Sem.run_bind, List.range'] 
theorem eqk52 : EqK Try.prog 52 4 := by
  refine EqK.of (by kernel_rfl) fun xs ys hx hy w => ?_
  match xs, ys, hx, hy with
  | [a, b, e, f], [c, d, g, h], _, _ =>
    have := eqA52 9997 w a c b d e g f h
    refine Eq.trans this ?_
    congr 1
    rw [Bool.eq_iff_iff]; simp [and_assoc]
theorem eqk52' : EqK Try.prog 52 4 ↔ True := iff_true_intro eqk52
attribute [local go_sem] clPts eqk23' eqk52'
theorem flatPaths (l : List (Int × Int)) (c : Bool) : PFun Try.prog 10 [Pa l c] (Bo true) := by
  refine PFun.intro 400 mixed Try.func10 (by kernel_rfl) rfl (by first | exact .v _ | (simp [Cl_v, Cl_t, Cl_g, Cl_fn, Cl_rp, Cl_ro]; done) | (simp [Cl_v, Cl_t, Cl_g, Cl_fn, Cl_rp, Cl_ro, or_imp, forall_and]; done) | (split <;> simp [Cl_v, Cl_t, Cl_g, Cl_fn, Cl_rp, Cl_ro])) (Nat.le_of_ble_eq_true rfl) ?_; rw [Try.ntmps10, Try.results10]
  simp (config := {maxSteps := 1000000, dsimp := false, implicitDefEqProofs := false}) only [go_sem, ↓reduceIte, Nat.reduceAdd, Nat.reduceSub, Nat.reduceMul, Nat.reduceLT, Nat.reduceLeDiff, Nat.reduceEqDiff, Nat.reduceBEq, Nat.reduceBNe, Int.reduceToNat, Int.reduceLT, Int.reduceLE, Int.reduceNeg, reduceCtorEq, Int.reduceEq, Int.reduceNe, Bool.false_eq_true, decide_true, decide_false, beq_self_eq_true, true_and, and_true, ne_eq, not_true, not_false_eq_true, List.elem_cons, List.elem_nil, List.contains_cons, List.contains_nil, List.getD_cons_zero, List.getD_cons_succ, Int.cast_ofNat_Int, Bool.or_true, Bool.true_or, Bool.or_false, Bool.false_or]
  refine AtFn.pure0 (few l c) ?_
  simp (config := {maxSteps := 1000000, dsimp := false, implicitDefEqProofs := false}) only [go_sem, ↓reduceIte, Nat.reduceAdd, Nat.reduceSub, Nat.reduceMul, Nat.reduceLT, Nat.reduceLeDiff, Nat.reduceEqDiff, Nat.reduceBEq, Nat.reduceBNe, Int.reduceToNat, Int.reduceLT, Int.reduceLE, Int.reduceNeg, reduceCtorEq, Int.reduceEq, Int.reduceNe, Bool.false_eq_true, decide_true, decide_false, beq_self_eq_true, true_and, and_true, ne_eq, not_true, not_false_eq_true, List.elem_cons, List.elem_nil, List.contains_cons, List.contains_nil, List.getD_cons_zero, List.getD_cons_succ, Int.cast_ofNat_Int, Bool.or_true, Bool.true_or, Bool.or_false, Bool.false_or]
  refine ⟨fun h => ?_, fun h => ?_⟩
  rotate_left
  · refine AtFn.pure0 awake ?_
    simp (config := {maxSteps := 1000000, dsimp := false, implicitDefEqProofs := false}) only [go_sem, ↓reduceIte, Nat.reduceAdd, Nat.reduceSub, Nat.reduceMul, Nat.reduceLT, Nat.reduceLeDiff, Nat.reduceEqDiff, Nat.reduceBEq, Nat.reduceBNe, Int.reduceToNat, Int.reduceLT, Int.reduceLE, Int.reduceNeg, reduceCtorEq, Int.reduceEq, Int.reduceNe, Bool.false_eq_true, decide_true, decide_false, beq_self_eq_true, true_and, and_true, ne_eq, not_true, not_false_eq_true, List.elem_cons, List.elem_nil, List.contains_cons, List.contains_nil, List.getD_cons_zero, List.getD_cons_succ, Int.cast_ofNat_Int, Bool.or_true, Bool.true_or, Bool.or_false, Bool.false_or]
  · have hn : l.length ≤ 60 := by simpa using h
    have hs : l.length < 2 ^ 20 := by omega
    have f1 := Line l c hs
    have f2 := rLine l c hs
    have f3 := Polygon l c hs
    have f4 := rPolygon l c hs
    have f5 := Box l c hs
    have f6 := rBox l c hs
    have f7 := samePath l l c c (by omega)
    rw [decide_eq_true rfl, decide_eq_true rfl] at f7
    have h2 := lineW_len l hs
    have h3 : (polyW l c).length < 2 ^ 62 := by
      unfold polyW
      split
      · rw [List.length_take]; omega
      · omega
    refine AtFn.pure0 (copied l c (by omega)) ?_
    simp (config := {maxSteps := 1000000, dsimp := false, implicitDefEqProofs := false}) only [go_sem, ↓reduceIte, Nat.reduceAdd, Nat.reduceSub, Nat.reduceMul, Nat.reduceLT, Nat.reduceLeDiff, Nat.reduceEqDiff, Nat.reduceBEq, Nat.reduceBNe, Int.reduceToNat, Int.reduceLT, Int.reduceLE, Int.reduceNeg, reduceCtorEq, Int.reduceEq, Int.reduceNe, Bool.false_eq_true, decide_true, decide_false, beq_self_eq_true, true_and, and_true, ne_eq, not_true, not_false_eq_true, List.elem_cons, List.elem_nil, List.contains_cons, List.contains_nil, List.getD_cons_zero, List.getD_cons_succ, Int.cast_ofNat_Int, Bool.or_true, Bool.true_or, Bool.or_false, Bool.false_or]
    refine AtCode.draw 5 [([], []), ([0], []), ([], []), ([0, 1, 2], []), ([0, 1, 2, 3], [])] (by kernel_rfl) ?_
    simp (config := {maxSteps := 1000000, dsimp := false, implicitDefEqProofs := false}) only [go_sem, ↓reduceIte, Nat.reduceAdd, Nat.reduceSub, Nat.reduceMul, Nat.reduceLT, Nat.reduceLeDiff, Nat.reduceEqDiff, Nat.reduceBEq, Nat.reduceBNe, Int.reduceToNat, Int.reduceLT, Int.reduceLE, Int.reduceNeg, reduceCtorEq, Int.reduceEq, Int.reduceNe, Bool.false_eq_true, decide_true, decide_false, beq_self_eq_true, true_and, and_true, ne_eq, not_true, not_false_eq_true, List.elem_cons, List.elem_nil, List.contains_cons, List.contains_nil, List.getD_cons_zero, List.getD_cons_succ, Int.cast_ofNat_Int, Bool.or_true, Bool.true_or, Bool.or_false, Bool.false_or]
    refine QFn.use _ (Valid l c (by omega)) (by simp (config := {maxSteps := 1000000, dsimp := false, implicitDefEqProofs := false}) only [go_sem, ↓reduceIte, Nat.reduceAdd, Nat.reduceSub, Nat.reduceMul, Nat.reduceLT, Nat.reduceLeDiff, Nat.reduceEqDiff, Nat.reduceBEq, Nat.reduceBNe, Int.reduceToNat, Int.reduceLT, Int.reduceLE, Int.reduceNeg, reduceCtorEq, Int.reduceEq, Int.reduceNe, Bool.false_eq_true, decide_true, decide_false, beq_self_eq_true, true_and, and_true, ne_eq, not_true, not_false_eq_true, List.elem_cons, List.elem_nil, List.contains_cons, List.contains_nil, List.getD_cons_zero, List.getD_cons_succ, Int.cast_ofNat_Int, Bool.or_true, Bool.true_or, Bool.or_false, Bool.false_or]) ?_
    simp (config := {maxSteps := 1000000, dsimp := false, implicitDefEqProofs := false}) only [go_sem, ↓reduceIte, Nat.reduceAdd, Nat.reduceSub, Nat.reduceMul, Nat.reduceLT, Nat.reduceLeDiff, Nat.reduceEqDiff, Nat.reduceBEq, Nat.reduceBNe, Int.reduceToNat, Int.reduceLT, Int.reduceLE, Int.reduceNeg, reduceCtorEq, Int.reduceEq, Int.reduceNe, Bool.false_eq_true, decide_true, decide_false, beq_self_eq_true, true_and, and_true, ne_eq, not_true, not_false_eq_true, List.elem_cons, List.elem_nil, List.contains_cons, List.contains_nil, List.getD_cons_zero, List.getD_cons_succ, Int.cast_ofNat_Int, Bool.or_true, Bool.true_or, Bool.or_false, Bool.false_or]
    refine QFn.use _ (rValid l c (by omega)) (by simp (config := {maxSteps := 1000000, dsimp := false, implicitDefEqProofs := false}) only [go_sem, ↓reduceIte, Nat.reduceAdd, Nat.reduceSub, Nat.reduceMul, Nat.reduceLT, Nat.reduceLeDiff, Nat.reduceEqDiff, Nat.reduceBEq, Nat.reduceBNe, Int.reduceToNat, Int.reduceLT, Int.reduceLE, Int.reduceNeg, reduceCtorEq, Int.reduceEq, Int.reduceNe, Bool.false_eq_true, decide_true, decide_false, beq_self_eq_true, true_and, and_true, ne_eq, not_true, not_false_eq_true, List.elem_cons, List.elem_nil, List.contains_cons, List.contains_nil, List.getD_cons_zero, List.getD_cons_succ, Int.cast_ofNat_Int, Bool.or_true, Bool.true_or, Bool.or_false, Bool.false_or]) ?_
    simp (config := {maxSteps := 1000000, dsimp := false, implicitDefEqProofs := false}) only [go_sem, ↓reduceIte, Nat.reduceAdd, Nat.reduceSub, Nat.reduceMul, Nat.reduceLT, Nat.reduceLeDiff, Nat.reduceEqDiff, Nat.reduceBEq, Nat.reduceBNe, Int.reduceToNat, Int.reduceLT, Int.reduceLE, Int.reduceNeg, reduceCtorEq, Int.reduceEq, Int.reduceNe, Bool.false_eq_true, decide_true, decide_false, beq_self_eq_true, true_and, and_true, ne_eq, not_true, not_false_eq_true, List.elem_cons, List.elem_nil, List.contains_cons, List.contains_nil, List.getD_cons_zero, List.getD_cons_succ, Int.cast_ofNat_Int, Bool.or_true, Bool.true_or, Bool.or_false, Bool.false_or]
    cases hv : validW l c
    · rw [hv] at f1 f2 f3 f4 f5 f6
      simp only [Bool.false_eq_true, if_false] at f1 f2 f3 f4 f5 f6
      refine AtFn.pure0 f1 ?_
      simp (config := {maxSteps := 1000000, dsimp := false, implicitDefEqProofs := false}) only [go_sem, ↓reduceIte, Nat.reduceAdd, Nat.reduceSub, Nat.reduceMul, Nat.reduceLT, Nat.reduceLeDiff, Nat.reduceEqDiff, Nat.reduceBEq, Nat.reduceBNe, Int.reduceToNat, Int.reduceLT, Int.reduceLE, Int.reduceNeg, reduceCtorEq, Int.reduceEq, Int.reduceNe, Bool.false_eq_true, decide_true, decide_false, beq_self_eq_true, true_and, and_true, ne_eq, not_true, not_false_eq_true, List.elem_cons, List.elem_nil, List.contains_cons, List.contains_nil, List.getD_cons_zero, List.getD_cons_succ, Int.cast_ofNat_Int, Bool.or_true, Bool.true_or, Bool.or_false, Bool.false_or]
      refine AtFn.pure0 f2 ?_
      simp (config := {maxSteps := 1000000, dsimp := false, implicitDefEqProofs := false}) only [go_sem, ↓reduceIte, Nat.reduceAdd, Nat.reduceSub, Nat.reduceMul, Nat.reduceLT, Nat.reduceLeDiff, Nat.reduceEqDiff, Nat.reduceBEq, Nat.reduceBNe, Int.reduceToNat, Int.reduceLT, Int.reduceLE, Int.reduceNeg, reduceCtorEq, Int.reduceEq, Int.reduceNe, Bool.false_eq_true, decide_true, decide_false, beq_self_eq_true, true_and, and_true, ne_eq, not_true, not_false_eq_true, List.elem_cons, List.elem_nil, List.contains_cons, List.contains_nil, List.getD_cons_zero, List.getD_cons_succ, Int.cast_ofNat_Int, Bool.or_true, Bool.true_or, Bool.or_false, Bool.false_or]
      refine AtFn.pure0 sameN ?_
      simp (config := {maxSteps := 1000000, dsimp := false, implicitDefEqProofs := false}) only [go_sem, ↓reduceIte, Nat.reduceAdd, Nat.reduceSub, Nat.reduceMul, Nat.reduceLT, Nat.reduceLeDiff, Nat.reduceEqDiff, Nat.reduceBEq, Nat.reduceBNe, Int.reduceToNat, Int.reduceLT, Int.reduceLE, Int.reduceNeg, reduceCtorEq, Int.reduceEq, Int.reduceNe, Bool.false_eq_true, decide_true, decide_false, beq_self_eq_true, true_and, and_true, ne_eq, not_true, not_false_eq_true, List.elem_cons, List.elem_nil, List.contains_cons, List.contains_nil, List.getD_cons_zero, List.getD_cons_succ, Int.cast_ofNat_Int, Bool.or_true, Bool.true_or, Bool.or_false, Bool.false_or]
      refine AtFn.pure0 f3 ?_
      simp (config := {maxSteps := 1000000, dsimp := false, implicitDefEqProofs := false}) only [go_sem, ↓reduceIte, Nat.reduceAdd, Nat.reduceSub, Nat.reduceMul, Nat.reduceLT, Nat.reduceLeDiff, Nat.reduceEqDiff, Nat.reduceBEq, Nat.reduceBNe, Int.reduceToNat, Int.reduceLT, Int.reduceLE, Int.reduceNeg, reduceCtorEq, Int.reduceEq, Int.reduceNe, Bool.false_eq_true, decide_true, decide_false, beq_self_eq_true, true_and, and_true, ne_eq, not_true, not_false_eq_true, List.elem_cons, List.elem_nil, List.contains_cons, List.contains_nil, List.getD_cons_zero, List.getD_cons_succ, Int.cast_ofNat_Int, Bool.or_true, Bool.true_or, Bool.or_false, Bool.false_or]
      refine AtFn.pure0 f4 ?_
      simp (config := {maxSteps := 1000000, dsimp := false, implicitDefEqProofs := false}) only [go_sem, ↓reduceIte, Nat.reduceAdd, Nat.reduceSub, Nat.reduceMul, Nat.reduceLT, Nat.reduceLeDiff, Nat.reduceEqDiff, Nat.reduceBEq, Nat.reduceBNe, Int.reduceToNat, Int.reduceLT, Int.reduceLE, Int.reduceNeg, reduceCtorEq, Int.reduceEq, Int.reduceNe, Bool.false_eq_true, decide_true, decide_false, beq_self_eq_true, true_and, and_true, ne_eq, not_true, not_false_eq_true, List.elem_cons, List.elem_nil, List.contains_cons, List.contains_nil, List.getD_cons_zero, List.getD_cons_succ, Int.cast_ofNat_Int, Bool.or_true, Bool.true_or, Bool.or_false, Bool.false_or]
      refine AtFn.pure0 sameN ?_
      simp (config := {maxSteps := 1000000, dsimp := false, implicitDefEqProofs := false}) only [go_sem, ↓reduceIte, Nat.reduceAdd, Nat.reduceSub, Nat.reduceMul, Nat.reduceLT, Nat.reduceLeDiff, Nat.reduceEqDiff, Nat.reduceBEq, Nat.reduceBNe, Int.reduceToNat, Int.reduceLT, Int.reduceLE, Int.reduceNeg, reduceCtorEq, Int.reduceEq, Int.reduceNe, Bool.false_eq_true, decide_true, decide_false, beq_self_eq_true, true_and, and_true, ne_eq, not_true, not_false_eq_true, List.elem_cons, List.elem_nil, List.contains_cons, List.contains_nil, List.getD_cons_zero, List.getD_cons_succ, Int.cast_ofNat_Int, Bool.or_true, Bool.true_or, Bool.or_false, Bool.false_or]
      refine AtFn.pure0 f5 ?_
      simp (config := {maxSteps := 1000000, dsimp := false, implicitDefEqProofs := false}) only [go_sem, ↓reduceIte, Nat.reduceAdd, Nat.reduceSub, Nat.reduceMul, Nat.reduceLT, Nat.reduceLeDiff, Nat.reduceEqDiff, Nat.reduceBEq, Nat.reduceBNe, Int.reduceToNat, Int.reduceLT, Int.reduceLE, Int.reduceNeg, reduceCtorEq, Int.reduceEq, Int.reduceNe, Bool.false_eq_true, decide_true, decide_false, beq_self_eq_true, true_and, and_true, ne_eq, not_true, not_false_eq_true, List.elem_cons, List.elem_nil, List.contains_cons, List.contains_nil, List.getD_cons_zero, List.getD_cons_succ, Int.cast_ofNat_Int, Bool.or_true, Bool.true_or, Bool.or_false, Bool.false_or]
      refine AtFn.pure0 f6 ?_
      simp (config := {maxSteps := 1000000, dsimp := false, implicitDefEqProofs := false}) only [go_sem, ↓reduceIte, Nat.reduceAdd, Nat.reduceSub, Nat.reduceMul, Nat.reduceLT, Nat.reduceLeDiff, Nat.reduceEqDiff, Nat.reduceBEq, Nat.reduceBNe, Int.reduceToNat, Int.reduceLT, Int.reduceLE, Int.reduceNeg, reduceCtorEq, Int.reduceEq, Int.reduceNe, Bool.false_eq_true, decide_true, decide_false, beq_self_eq_true, true_and, and_true, ne_eq, not_true, not_false_eq_true, List.elem_cons, List.elem_nil, List.contains_cons, List.contains_nil, List.getD_cons_zero, List.getD_cons_succ, Int.cast_ofNat_Int, Bool.or_true, Bool.true_or, Bool.or_false, Bool.false_or]
      refine AtFn.pure0 f7 ?_
      simp (config := {maxSteps := 1000000, dsimp := false, implicitDefEqProofs := false}) only [go_sem, ↓reduceIte, Nat.reduceAdd, Nat.reduceSub, Nat.reduceMul, Nat.reduceLT, Nat.reduceLeDiff, Nat.reduceEqDiff, Nat.reduceBEq, Nat.reduceBNe, Int.reduceToNat, Int.reduceLT, Int.reduceLE, Int.reduceNeg, reduceCtorEq, Int.reduceEq, Int.reduceNe, Bool.false_eq_true, decide_true, decide_false, beq_self_eq_true, true_and, and_true, ne_eq, not_true, not_false_eq_true, List.elem_cons, List.elem_nil, List.contains_cons, List.contains_nil, List.getD_cons_zero, List.getD_cons_succ, Int.cast_ofNat_Int, Bool.or_true, Bool.true_or, Bool.or_false, Bool.false_or]
      refine AtFn.pure0 awake ?_
      simp (config := {maxSteps := 1000000, dsimp := false, implicitDefEqProofs := false}) only [go_sem, ↓reduceIte, Nat.reduceAdd, Nat.reduceSub, Nat.reduceMul, Nat.reduceLT, Nat.reduceLeDiff, Nat.reduceEqDiff, Nat.reduceBEq, Nat.reduceBNe, Int.reduceToNat, Int.reduceLT, Int.reduceLE, Int.reduceNeg, reduceCtorEq, Int.reduceEq, Int.reduceNe, Bool.false_eq_true, decide_true, decide_false, beq_self_eq_true, true_and, and_true, ne_eq, not_true, not_false_eq_true, List.elem_cons, List.elem_nil, List.contains_cons, List.contains_nil, List.getD_cons_zero, List.getD_cons_succ, Int.cast_ofNat_Int, Bool.or_true, Bool.true_or, Bool.or_false, Bool.false_or]
    · rw [hv] at f1 f2 f3 f4 f5 f6
      simp only [if_true] at f1 f2 f3 f4 f5 f6
      refine AtFn.pure0 f1 ?_
      simp (config := {maxSteps := 1000000, dsimp := false, implicitDefEqProofs := false}) only [go_sem, ↓reduceIte, Nat.reduceAdd, Nat.reduceSub, Nat.reduceMul, Nat.reduceLT, Nat.reduceLeDiff, Nat.reduceEqDiff, Nat.reduceBEq, Nat.reduceBNe, Int.reduceToNat, Int.reduceLT, Int.reduceLE, Int.reduceNeg, reduceCtorEq, Int.reduceEq, Int.reduceNe, Bool.false_eq_true, decide_true, decide_false, beq_self_eq_true, true_and, and_true, ne_eq, not_true, not_false_eq_true, List.elem_cons, List.elem_nil, List.contains_cons, List.contains_nil, List.getD_cons_zero, List.getD_cons_succ, Int.cast_ofNat_Int, Bool.or_true, Bool.true_or, Bool.or_false, Bool.false_or]
      refine AtFn.pure0 f2 ?_
      simp (config := {maxSteps := 1000000, dsimp := false, implicitDefEqProofs := false}) only [go_sem, ↓reduceIte, Nat.reduceAdd, Nat.reduceSub, Nat.reduceMul, Nat.reduceLT, Nat.reduceLeDiff, Nat.reduceEqDiff, Nat.reduceBEq, Nat.reduceBNe, Int.reduceToNat, Int.reduceLT, Int.reduceLE, Int.reduceNeg, reduceCtorEq, Int.reduceEq, Int.reduceNe, Bool.false_eq_true, decide_true, decide_false, beq_self_eq_true, true_and, and_true, ne_eq, not_true, not_false_eq_true, List.elem_cons, List.elem_nil, List.contains_cons, List.contains_nil, List.getD_cons_zero, List.getD_cons_succ, Int.cast_ofNat_Int, Bool.or_true, Bool.true_or, Bool.or_false, Bool.false_or]
      refine AtFn.pure0 (sameT _ (by omega)) ?_
      simp (config := {maxSteps := 1000000, dsimp := false, implicitDefEqProofs := false}) only [go_sem, ↓reduceIte, Nat.reduceAdd, Nat.reduceSub, Nat.reduceMul, Nat.reduceLT, Nat.reduceLeDiff, Nat.reduceEqDiff, Nat.reduceBEq, Nat.reduceBNe, Int.reduceToNat, Int.reduceLT, Int.reduceLE, Int.reduceNeg, reduceCtorEq, Int.reduceEq, Int.reduceNe, Bool.false_eq_true, decide_true, decide_false, beq_self_eq_true, true_and, and_true, ne_eq, not_true, not_false_eq_true, List.elem_cons, List.elem_nil, List.contains_cons, List.contains_nil, List.getD_cons_zero, List.getD_cons_succ, Int.cast_ofNat_Int, Bool.or_true, Bool.true_or, Bool.or_false, Bool.false_or]
      refine AtFn.pure0 f3 ?_
      simp (config := {maxSteps := 1000000, dsimp := false, implicitDefEqProofs := false}) only [go_sem, ↓reduceIte, Nat.reduceAdd, Nat.reduceSub, Nat.reduceMul, Nat.reduceLT, Nat.reduceLeDiff, Nat.reduceEqDiff, Nat.reduceBEq, Nat.reduceBNe, Int.reduceToNat, Int.reduceLT, Int.reduceLE, Int.reduceNeg, reduceCtorEq, Int.reduceEq, Int.reduceNe, Bool.false_eq_true, decide_true, decide_false, beq_self_eq_true, true_and, and_true, ne_eq, not_true, not_false_eq_true, List.elem_cons, List.elem_nil, List.contains_cons, List.contains_nil, List.getD_cons_zero, List.getD_cons_succ, Int.cast_ofNat_Int, Bool.or_true, Bool.true_or, Bool.or_false, Bool.false_or]
      refine AtFn.pure0 f4 ?_
      simp (config := {maxSteps := 1000000, dsimp := false, implicitDefEqProofs := false}) only [go_sem, ↓reduceIte, Nat.reduceAdd, Nat.reduceSub, Nat.reduceMul, Nat.reduceLT, Nat.reduceLeDiff, Nat.reduceEqDiff, Nat.reduceBEq, Nat.reduceBNe, Int.reduceToNat, Int.reduceLT, Int.reduceLE, Int.reduceNeg, reduceCtorEq, Int.reduceEq, Int.reduceNe, Bool.false_eq_true, decide_true, decide_false, beq_self_eq_true, true_and, and_true, ne_eq, not_true, not_false_eq_true, List.elem_cons, List.elem_nil, List.contains_cons, List.contains_nil, List.getD_cons_zero, List.getD_cons_succ, Int.cast_ofNat_Int, Bool.or_true, Bool.true_or, Bool.or_false, Bool.false_or]
      refine AtFn.pure0 (sameT _ h3) ?_
      simp (config := {maxSteps := 1000000, dsimp := false, implicitDefEqProofs := false}) only [go_sem, ↓reduceIte, Nat.reduceAdd, Nat.reduceSub, Nat.reduceMul, Nat.reduceLT, Nat.reduceLeDiff, Nat.reduceEqDiff, Nat.reduceBEq, Nat.reduceBNe, Int.reduceToNat, Int.reduceLT, Int.reduceLE, Int.reduceNeg, reduceCtorEq, Int.reduceEq, Int.reduceNe, Bool.false_eq_true, decide_true, decide_false, beq_self_eq_true, true_and, and_true, ne_eq, not_true, not_false_eq_true, List.elem_cons, List.elem_nil, List.contains_cons, List.contains_nil, List.getD_cons_zero, List.getD_cons_succ, Int.cast_ofNat_Int, Bool.or_true, Bool.true_or, Bool.or_false, Bool.false_or]
      refine AtFn.pure0 f5 ?_
      simp (config := {maxSteps := 1000000, dsimp := false, implicitDefEqProofs := false}) only [go_sem, ↓reduceIte, Nat.reduceAdd, Nat.reduceSub, Nat.reduceMul, Nat.reduceLT, Nat.reduceLeDiff, Nat.reduceEqDiff, Nat.reduceBEq, Nat.reduceBNe, Int.reduceToNat, Int.reduceLT, Int.reduceLE, Int.reduceNeg, reduceCtorEq, Int.reduceEq, Int.reduceNe, Bool.false_eq_true, decide_true, decide_false, beq_self_eq_true, true_and, and_true, ne_eq, not_true, not_false_eq_true, List.elem_cons, List.elem_nil, List.contains_cons, List.contains_nil, List.getD_cons_zero, List.getD_cons_succ, Int.cast_ofNat_Int, Bool.or_true, Bool.true_or, Bool.or_false, Bool.false_or]
      refine AtFn.pure0 f6 ?_
      simp (config := {maxSteps := 1000000, dsimp := false, implicitDefEqProofs := false}) only [go_sem, ↓reduceIte, Nat.reduceAdd, Nat.reduceSub, Nat.reduceMul, Nat.reduceLT, Nat.reduceLeDiff, Nat.reduceEqDiff, Nat.reduceBEq, Nat.reduceBNe, Int.reduceToNat, Int.reduceLT, Int.reduceLE, Int.reduceNeg, reduceCtorEq, Int.reduceEq, Int.reduceNe, Bool.false_eq_true, decide_true, decide_false, beq_self_eq_true, true_and, and_true, ne_eq, not_true, not_false_eq_true, List.elem_cons, List.elem_nil, List.contains_cons, List.contains_nil, List.getD_cons_zero, List.getD_cons_succ, Int.cast_ofNat_Int, Bool.or_true, Bool.true_or, Bool.or_false, Bool.false_or]
      refine AtFn.pure0 f7 ?_
      simp (config := {maxSteps := 1000000, dsimp := false, implicitDefEqProofs := false}) only [go_sem, ↓reduceIte, Nat.reduceAdd, Nat.reduceSub, Nat.reduceMul, Nat.reduceLT, Nat.reduceLeDiff, Nat.reduceEqDiff, Nat.reduceBEq, Nat.reduceBNe, Int.reduceToNat, Int.reduceLT, Int.reduceLE, Int.reduceNeg, reduceCtorEq, Int.reduceEq, Int.reduceNe, Bool.false_eq_true, decide_true, decide_false, beq_self_eq_true, true_and, and_true, ne_eq, not_true, not_false_eq_true, List.elem_cons, List.elem_nil, List.contains_cons, List.contains_nil, List.getD_cons_zero, List.getD_cons_succ, Int.cast_ofNat_Int, Bool.or_true, Bool.true_or, Bool.or_false, Bool.false_or]
      refine AtFn.pure0 awake ?_
      simp (config := {maxSteps := 1000000, dsimp := false, implicitDefEqProofs := false}) only [go_sem, ↓reduceIte, Nat.reduceAdd, Nat.reduceSub, Nat.reduceMul, Nat.reduceLT, Nat.reduceLeDiff, Nat.reduceEqDiff, Nat.reduceBEq, Nat.reduceBNe, Int.reduceToNat, Int.reduceLT, Int.reduceLE, Int.reduceNeg, reduceCtorEq, Int.reduceEq, Int.reduceNe, Bool.false_eq_true, decide_true, decide_false, beq_self_eq_true, true_and, and_true, ne_eq, not_true, not_false_eq_true, List.elem_cons, List.elem_nil, List.contains_cons, List.contains_nil, List.getD_cons_zero, List.getD_cons_succ, Int.cast_ofNat_Int, Bool.or_true, Bool.true_or, Bool.or_false, Bool.false_or]

end

section
set_option maxRecDepth 20000
/-- The sum of the chapter, for one coordinate. -/
def sumP (a b c d i n : Int) : Int := (n - i) * (n - i) * (n - i) * a + 3 * (n - i) * (n - i) * i * b + 3 * (n - i) * i * i * c + i * i * i * d
theorem sumW_wr (a b c d i n : Int) : sumW a b c d i n = wr (sumP a b c d i n) := by
  simp only [sumW, sumP, wr_mul_l, wr_mul_r, wr_add_l, wr_add_r]
theorem hull (a b c d i n lo hi : Int) (h0 : 0 ≤ i) (h1 : i ≤ n) (ha : lo ≤ a ∧ a ≤ hi) (hb : lo ≤ b ∧ b ≤ hi) (hc : lo ≤ c ∧ c ≤ hi) (hd : lo ≤ d ∧ d ≤ hi) :
    lo * (n * n * n) ≤ sumP a b c d i n ∧ sumP a b c d i n ≤ hi * (n * n * n) := by
  have hm : 0 ≤ n - i := by omega
  have w0 : 0 ≤ (n - i) * (n - i) * (n - i) := Int.mul_nonneg (Int.mul_nonneg hm hm) hm
  have w1 : 0 ≤ 3 * (n - i) * (n - i) * i := Int.mul_nonneg (Int.mul_nonneg (by omega) hm) h0
  have w2 : 0 ≤ 3 * (n - i) * i * i := Int.mul_nonneg (Int.mul_nonneg (by omega) h0) h0
  have w3 : 0 ≤ i * i * i := Int.mul_nonneg (Int.mul_nonneg h0 h0) h0
  have e : ∀ x : Int, (n - i) * (n - i) * (n - i) * x + 3 * (n - i) * (n - i) * i * x + 3 * (n - i) * i * i * x + i * i * i * x = x * (n * n * n) := by intro x; grind
  rw [← e lo, ← e hi, sumP]
  have := Int.mul_le_mul_of_nonneg_left ha.1 w0
  have := Int.mul_le_mul_of_nonneg_left ha.2 w0
  have := Int.mul_le_mul_of_nonneg_left hb.1 w1
  have := Int.mul_le_mul_of_nonneg_left hb.2 w1
  have := Int.mul_le_mul_of_nonneg_left hc.1 w2
  have := Int.mul_le_mul_of_nonneg_left hc.2 w2
  have := Int.mul_le_mul_of_nonneg_left hd.1 w3
  have := Int.mul_le_mul_of_nonneg_left hd.2 w3
  constructor <;> omega
theorem cube_le (n : Int) (h1 : 1 ≤ n) (h2 : n ≤ 1000) : 1 ≤ n * n * n ∧ n * n * n ≤ 1000000000 := by
  have a1 : 1 * 1 ≤ n * n := Int.mul_le_mul h1 h1 (by omega) (by omega)
  have a2 : 1 * 1 ≤ n * n * n := Int.mul_le_mul (by omega) h1 (by omega) (by omega)
  have b1 : n * n ≤ 1000 * 1000 := Int.mul_le_mul h2 h2 (by omega) (by omega)
  have b2 : n * n * n ≤ 1000000 * 1000 := Int.mul_le_mul (by omega) h2 (by omega) (by omega)
  omega
theorem inC_iff (x : Int) : inC x = true ↔ -268435455 ≤ x ∧ x ≤ 268435455 := by simp [inC]
theorem inP_iff (p : Int × Int) : inP p = true ↔ inC p.1 = true ∧ inC p.2 = true := by simp [inP]
theorem floorZ_eq (x y : Int) (hy : 0 < y) (hx : -9223372036854775808 < x) (hx2 : x ≤ 9223372036854775807) : floorZ x y = x / y := by
  have hq : -9223372036854775808 < x.tdiv y ∧ x.tdiv y ≤ 9223372036854775807 := by
    have h1 := Int.natAbs_tdiv_le_natAbs x y
    omega
  have hm := Int.tdiv_mul_add_tmod x y
  have hlt := Int.tmod_lt_of_pos x hy
  have hgt := Int.lt_tmod_of_pos x hy
  unfold floorZ
  split
  · rename_i h
    rw [wr_sub_l, wr_in (by omega) (by omega)]
    refine (Int.ediv_eq_iff_of_pos hy).2 ?_ |>.symm
    constructor <;> grind
  · rename_i h
    rw [wr_in (by omega) (by omega)]
    refine (Int.ediv_eq_iff_of_pos hy).2 ?_ |>.symm
    constructor <;> grind
/-- One coordinate of a point of a segment, without wrapping. -/
theorem atW_eq (a b c d i n : Int) (ha : inC a = true) (hb : inC b = true) (hc : inC c = true) (hd : inC d = true) (h1 : 1 ≤ n) (h2 : n ≤ 1000) (h3 : 0 ≤ i) (h4 : i ≤ n) :
    atW a b c d i n = (2 * sumP a b c d i n + n * n * n) / (2 * (n * n * n)) := by
  rw [inC_iff] at ha hb hc hd
  have hh := hull a b c d i n _ _ h3 h4 ha hb hc hd
  have hn := cube_le n h1 h2
  unfold atW
  rw [sumW_wr]
  simp only [wr_mul_l, wr_mul_r, wr_add_l, wr_add_r]
  have e : 2 * n * n * n = 2 * (n * n * n) := by grind
  rw [e, wr_in (x := 2 * sumP a b c d i n + n * n * n) (by omega) (by omega), wr_in (x := 2 * (n * n * n)) (by omega) (by omega)]
  exact floorZ_eq _ _ (by omega) (by omega) (by omega)
theorem at_first (a b c d n : Int) (ha : inC a = true) (hb : inC b = true) (hc : inC c = true) (hd : inC d = true) (h1 : 1 ≤ n) (h2 : n ≤ 1000) : atW a b c d 0 n = a := by
  rw [atW_eq a b c d 0 n ha hb hc hd h1 h2 (by omega) (by omega)]
  have hn := cube_le n h1 h2
  have e : 2 * sumP a b c d 0 n + n * n * n = n * n * n + 2 * (n * n * n) * a := by unfold sumP; grind
  rw [e, Int.add_mul_ediv_left _ _ (by omega), Int.ediv_eq_zero_of_lt (by omega) (by omega)]
  omega
theorem at_last (a b c d n : Int) (ha : inC a = true) (hb : inC b = true) (hc : inC c = true) (hd : inC d = true) (h1 : 1 ≤ n) (h2 : n ≤ 1000) : atW a b c d n n = d := by
  rw [atW_eq a b c d n n ha hb hc hd h1 h2 (by omega) (by omega)]
  have hn := cube_le n h1 h2
  have e : 2 * sumP a b c d n n + n * n * n = n * n * n + 2 * (n * n * n) * d := by unfold sumP; grind
  rw [e, Int.add_mul_ediv_left _ _ (by omega), Int.ediv_eq_zero_of_lt (by omega) (by omega)]
  omega
theorem secW_rev (a b c : Int) : secW a b c = secW c b a := by
  simp only [secW, wr_add_l, wr_sub_r, wr_sub_l]
  congr 1; omega
theorem bends_rev (a b c d : Int) : bendsW a b c d = bendsW d c b a := by
  simp only [bendsW]
  rw [secW_rev d c b, secW_rev c b a]
  omega
theorem fineN_rev (a b c d : Int × Int) : fineN a b c d = fineN d c b a := by
  simp only [fineN, bend2, bends_rev]
theorem four (a b c d : Int × Int) : (inP a && (inP b && (inP c && inP d))) = (inP d && (inP c && (inP b && inP a))) := by
  cases inP a <;> cases inP b <;> cases inP c <;> cases inP d <;> rfl
theorem pow_n (a b c d : Int × Int) : (1 : Int) ≤ (2 ^ fineN a b c d : Nat) ∧ ((2 ^ fineN a b c d : Nat) : Int) ≤ 256 := by
  have := fineN_le a b c d
  have : 0 < 2 ^ fineN a b c d := Nat.pow_pos (by omega)
  omega
theorem seg_first (a b c d : Int × Int) (h : (inP a && (inP b && (inP c && inP d))) = true) : (segW a b c d)[0]? = some a := by
  simp only [Bool.and_eq_true, inP_iff] at h
  obtain ⟨h1, h2, h3, h4⟩ := h
  have hp := pow_n a b c d
  have e1 := at_first a.1 b.1 c.1 d.1 (2 ^ fineN a b c d : Nat) h1.1 h2.1 h3.1 h4.1 (by omega) (by omega)
  have e2 := at_first a.2 b.2 c.2 d.2 (2 ^ fineN a b c d : Nat) h1.2 h2.2 h3.2 h4.2 (by omega) (by omega)
  simp only [segW, List.getElem?_map, List.getElem?_range (show 0 < 2 ^ fineN a b c d + 1 by omega), Option.map_some, ptW]
  rw [show ((0 : Nat) : Int) = 0 from rfl, e1, e2]
theorem seg_last (a b c d : Int × Int) (h : (inP a && (inP b && (inP c && inP d))) = true) : (segW a b c d)[2 ^ fineN a b c d]? = some d := by
  simp only [Bool.and_eq_true, inP_iff] at h
  obtain ⟨h1, h2, h3, h4⟩ := h
  have hp := pow_n a b c d
  have e1 := at_last a.1 b.1 c.1 d.1 (2 ^ fineN a b c d : Nat) h1.1 h2.1 h3.1 h4.1 (by omega) (by omega)
  have e2 := at_last a.2 b.2 c.2 d.2 (2 ^ fineN a b c d : Nat) h1.2 h2.2 h3.2 h4.2 (by omega) (by omega)
  simp only [segW, List.getElem?_map, List.getElem?_range (show 2 ^ fineN a b c d < 2 ^ fineN a b c d + 1 by omega), Option.map_some, ptW]
  rw [e1, e2]

end

section
set_option maxRecDepth 20000
attribute [local go_sem] clPts eqk23'
theorem and15 (k : Nat) (h : k ≤ 8) : IntKind.u64.wrap (wr ↑(BitVec.ofInt IntKind.i64.bits (k : Int) &&& BitVec.ofInt IntKind.i64.bits 15).toNat) = (k : Int) := by
  match k, h with
  | 0, _ => decide
  | 1, _ => decide
  | 2, _ => decide
  | 3, _ => decide
  | 4, _ => decide
  | 5, _ => decide
  | 6, _ => decide
  | 7, _ => decide
  | 8, _ => decide
  | k + 9, h => omega
theorem fineN_le8 (a b c d : Int × Int) : fineN a b c d ≤ 8 := fineW_le _
theorem succW (m : Nat) (h : m ≤ 2 ^ 62) : wr ((m : Int) + 1) = ((m + 1 : Nat) : Int) := by rw [wr_in] <;> omega
theorem predW (m : Nat) (h : m ≤ 2 ^ 62) : wr (((m + 1 : Nat) : Int) - 1) = (m : Int) := by rw [wr_in] <;> omega
theorem flatEnds (a b c d : Int × Int) : PFun Try.prog 6 [Seg a b c d] (Bo true) := by
  refine PFun.intro 400 mixed Try.func6 (by kernel_rfl) rfl (by first | exact .v _ | (simp [Cl_v, Cl_t, Cl_g, Cl_fn, Cl_rp, Cl_ro]; done) | (simp [Cl_v, Cl_t, Cl_g, Cl_fn, Cl_rp, Cl_ro, or_imp, forall_and]; done) | (split <;> simp [Cl_v, Cl_t, Cl_g, Cl_fn, Cl_rp, Cl_ro])) (Nat.le_of_ble_eq_true rfl) ?_; rw [Try.ntmps6, Try.results6]
  simp (config := {maxSteps := 1000000, dsimp := false, implicitDefEqProofs := false}) only [go_sem, ↓reduceIte, Nat.reduceAdd, Nat.reduceSub, Nat.reduceMul, Nat.reduceLT, Nat.reduceLeDiff, Nat.reduceEqDiff, Nat.reduceBEq, Nat.reduceBNe, Int.reduceToNat, Int.reduceLT, Int.reduceLE, Int.reduceNeg, reduceCtorEq, Int.reduceEq, Int.reduceNe, Bool.false_eq_true, decide_true, decide_false, beq_self_eq_true, true_and, and_true, ne_eq, not_true, not_false_eq_true, List.elem_cons, List.elem_nil, List.contains_cons, List.contains_nil, List.getD_cons_zero, List.getD_cons_succ, Int.cast_ofNat_Int, Bool.or_true, Bool.true_or, Bool.or_false, Bool.false_or]
  have f1 := Segment a b c d
  have f2 := Fineness a b c d
  have f3 := Fineness d c b a
  rw [← four a b c d, ← fineN_rev a b c d] at f3
  by_cases hc : (inP a && (inP b && (inP c && inP d))) = true
  · rw [if_pos hc] at f1 f2 f3
    have s0 := seg_first a b c d hc
    have s1 := seg_last a b c d hc
    refine AtFn.pure0 f1 ?_
    simp (config := {maxSteps := 1000000, dsimp := false, implicitDefEqProofs := false}) only [go_sem, ↓reduceIte, Nat.reduceAdd, Nat.reduceSub, Nat.reduceMul, Nat.reduceLT, Nat.reduceLeDiff, Nat.reduceEqDiff, Nat.reduceBEq, Nat.reduceBNe, Int.reduceToNat, Int.reduceLT, Int.reduceLE, Int.reduceNeg, reduceCtorEq, Int.reduceEq, Int.reduceNe, Bool.false_eq_true, decide_true, decide_false, beq_self_eq_true, true_and, and_true, ne_eq, not_true, not_false_eq_true, List.elem_cons, List.elem_nil, List.contains_cons, List.contains_nil, List.getD_cons_zero, List.getD_cons_succ, Int.cast_ofNat_Int, Bool.or_true, Bool.true_or, Bool.or_false, Bool.false_or]
    refine AtFn.pure0 f2 ?_
    simp (config := {maxSteps := 1000000, dsimp := false, implicitDefEqProofs := false}) only [go_sem, ↓reduceIte, Nat.reduceAdd, Nat.reduceSub, Nat.reduceMul, Nat.reduceLT, Nat.reduceLeDiff, Nat.reduceEqDiff, Nat.reduceBEq, Nat.reduceBNe, Int.reduceToNat, Int.reduceLT, Int.reduceLE, Int.reduceNeg, reduceCtorEq, Int.reduceEq, Int.reduceNe, Bool.false_eq_true, decide_true, decide_false, beq_self_eq_true, true_and, and_true, ne_eq, not_true, not_false_eq_true, List.elem_cons, List.elem_nil, List.contains_cons, List.contains_nil, List.getD_cons_zero, List.getD_cons_succ, Int.cast_ofNat_Int, Bool.or_true, Bool.true_or, Bool.or_false, Bool.false_or]
    refine AtFn.pure0 f3 ?_
    simp (config := {maxSteps := 1000000, dsimp := false, implicitDefEqProofs := false}) only [go_sem, ↓reduceIte, Nat.reduceAdd, Nat.reduceSub, Nat.reduceMul, Nat.reduceLT, Nat.reduceLeDiff, Nat.reduceEqDiff, Nat.reduceBEq, Nat.reduceBNe, Int.reduceToNat, Int.reduceLT, Int.reduceLE, Int.reduceNeg, reduceCtorEq, Int.reduceEq, Int.reduceNe, Bool.false_eq_true, decide_true, decide_false, beq_self_eq_true, true_and, and_true, ne_eq, not_true, not_false_eq_true, List.elem_cons, List.elem_nil, List.contains_cons, List.contains_nil, List.getD_cons_zero, List.getD_cons_succ, Int.cast_ofNat_Int, Bool.or_true, Bool.true_or, Bool.or_false, Bool.false_or]
    have e1 := and15 _ (fineN_le8 a b c d)
    have e2 := pow2 _ (fineN_le8 a b c d)
    rw [Int.toNat_natCast] at e2
    have hp := fineN_le a b c d
    have e3 : wr (((2 ^ fineN a b c d : Nat) : Int) + 1) = ((2 ^ fineN a b c d + 1 : Nat) : Int) := succW _ (by omega)
    have e4 : wr (((2 ^ fineN a b c d + 1 : Nat) : Int) - 1) = ((2 ^ fineN a b c d : Nat) : Int) := predW _ (by omega)
    refine AtCode.draw 44 [([], []), ([0], []), ([], []), ([2], []), ([2, 3], []), ([2, 3, 4], []), ([2, 3, 4, 5], []), ([0, 1, 2, 3, 4, 5, 6], []), ([0, 1, 2, 3, 4, 5, 6, 7], []), ([0, 1, 2, 3, 4, 5, 6, 7, 8], []), ([0, 1, 2, 3, 4, 5, 6, 7, 8, 9], []), ([0, 1, 2, 3, 4, 5, 6, 7, 8, 9, 10], []), ([0, 1, 2, 3, 4, 5, 6, 7, 8], []), ([0, 1, 2, 3, 4, 5, 6, 7, 8, 12], []), ([0, 1, 2, 3, 4, 5, 6, 7, 8, 9, 10, 11, 12, 13], []), ([0, 1, 2, 3, 4, 5, 6, 7, 8, 9, 10, 11, 12, 13, 14], []), ([0, 1, 2, 3, 4, 5, 6, 7, 8, 9, 10, 11, 12, 13, 14, 15], []), ([0, 1, 2, 3, 4, 5, 6, 7, 8, 9, 10, 11, 12, 13, 14, 15, 16], []), ([0, 1, 2, 3, 4, 5, 6, 7, 8, 9, 10, 11, 12, 13, 14, 15, 16], []), ([0, 1, 2, 3, 4, 5, 6, 7, 8, 9, 10, 11, 12, 13, 14, 15, 16, 18], []), ([0, 1, 2, 3, 4, 5, 6, 7, 8, 9, 10, 11, 12, 13, 14, 15, 16, 18, 19], []), ([0, 1, 2, 3, 4, 5, 6, 7, 8, 9, 10, 11, 12, 13, 14, 15, 16, 17, 18, 19, 20], []), ([0, 1, 2, 3, 4, 5, 6, 7, 8, 9, 10, 11, 12, 13, 14, 15, 16, 17, 18, 19, 20, 21], []), ([0, 1, 2, 3, 4, 5, 6, 7, 8, 9, 10, 11, 12, 13, 14, 15, 16], []), ([0, 1, 2, 3, 4, 5, 6, 7, 8, 9, 10, 11, 12, 13, 14, 15, 16, 23], []), ([0, 1, 2, 3, 4, 5, 6, 7, 8, 9, 10, 11, 12, 13, 14, 15, 16, 17, 18, 19, 20, 21, 22, 23, 24], []), ([0, 1, 2, 3, 4, 5, 6, 7, 8, 9, 10, 11, 12, 13, 14, 15, 16, 17, 18, 19, 20, 21, 22, 23, 24, 25], []), ([0, 1, 2, 3, 4, 5, 6, 7, 8, 9, 10, 11, 12, 13, 14, 15, 16, 17, 18, 19, 20, 21, 22, 23, 24, 25, 26], []), ([0, 1, 2, 3, 4, 5, 6, 7, 8, 9, 10, 11, 12, 13, 14, 15, 16, 17, 18, 19, 20, 21, 22, 23, 24, 25, 26, 27], []), ([0, 1, 2, 3, 4, 5, 6, 7, 8, 9, 10, 11, 12, 13, 14, 15, 16, 17, 18, 19, 20, 21, 22, 23, 24, 25, 26, 27, 28], []), ([0, 1, 2, 3, 4, 5, 6, 7, 8, 9, 10, 11, 12, 13, 14, 15, 16, 17, 18, 19, 20, 21, 22, 23, 24, 25, 26, 27, 28, 29], []), ([0, 1, 2, 3, 4, 5, 6, 7, 8, 9, 10, 11, 12, 13, 14, 15, 16, 17, 18, 19, 20, 21, 22, 23, 24, 25, 26, 27, 28, 29, 30], []), ([0, 1, 2, 3, 4, 5, 6, 7, 8, 9, 10, 11, 12, 13, 14, 15, 16, 17, 18, 19, 20, 21, 22, 23, 24, 25, 26, 27, 28, 29, 30, 31], []), ([0, 1, 2, 3, 4, 5, 6, 7, 8, 9, 10, 11, 12, 13, 14, 15, 16, 17, 18, 19, 20, 21, 22, 23, 24, 25, 26, 27, 28, 29, 30, 31, 32], []), ([0, 1, 2, 3, 4, 5, 6, 7, 8, 9, 10, 11, 12, 13, 14, 15, 16, 17, 18, 19, 20, 21, 22, 23, 24, 25, 26, 27, 28, 29, 30, 31, 32, 33], []), ([0, 1, 2, 3, 4, 5, 6, 7, 8, 9, 10, 11, 12, 13, 14, 15, 16, 17, 18, 19, 20, 21, 22, 23, 24, 25, 26, 27, 28, 29, 30, 31, 32, 33, 34], []), ([0, 1, 2, 3, 4, 5, 6, 7, 8, 9, 10, 11, 12, 13, 14, 15, 16, 17, 18, 19, 20, 21, 22, 23, 24, 25, 26, 27, 28, 29, 30, 31, 32, 33, 34, 35], []), ([0, 1, 2, 3, 4, 5, 6, 7, 8, 9, 10, 11, 12, 13, 14, 15, 16, 17, 18, 19, 20, 21, 22, 23, 24, 25, 26, 27, 28, 29, 30, 31, 32, 33, 34, 35], []), ([0, 1, 2, 3, 4, 5, 6, 7, 8, 9, 10, 11, 12, 13, 14, 15, 16, 17, 18, 19, 20, 21, 22, 23, 24, 25, 26, 27, 28, 29, 30, 31, 32, 33, 34, 35, 36, 37], []), ([0, 1, 2, 3, 4, 5, 6, 7, 8, 9, 10, 11, 12, 13, 14, 15, 16, 17, 18, 19, 20, 21, 22, 23, 24, 25, 26, 27, 28, 29, 30, 31, 32, 33, 34, 35, 36, 37, 38], []), ([0, 1, 2, 3, 4, 5, 6, 7, 8, 9, 10, 11, 12, 13, 14, 15, 16, 17, 18, 19, 20, 21, 22, 23, 24, 25, 26, 27, 28, 29, 30, 31, 32, 33, 34, 35, 36, 37, 38, 39], []), ([0, 1, 2, 3, 4, 5, 6, 7, 8, 9, 10, 11, 12, 13, 14, 15, 16, 17, 18, 19, 20, 21, 22, 23, 24, 25, 26, 27, 28, 29, 30, 31, 32, 33, 34, 35, 36, 37, 38, 39, 40], []), ([0, 1, 2, 3, 4, 5, 6, 7, 8, 9, 10, 11, 12, 13, 14, 15, 16, 17, 18, 19, 20, 21, 22, 23, 24, 25, 26, 27, 28, 29, 30, 31, 32, 33, 34, 35, 36, 37, 38, 39, 40, 41], []), ([0, 1, 2, 3, 4, 5, 6, 7, 8, 9, 10, 11, 12, 13, 14, 15, 16, 17, 18, 19, 20, 21, 22, 23, 24, 25, 26, 27, 28, 29, 30, 31, 32, 33, 34, 35, 36, 37, 38, 39, 40, 41, 42], [])] (by kernel_rfl) ?_
    simp (config := {maxSteps := 1000000, dsimp := false, implicitDefEqProofs := false}) only [go_sem, ↓reduceIte, Nat.reduceAdd, Nat.reduceSub, Nat.reduceMul, Nat.reduceLT, Nat.reduceLeDiff, Nat.reduceEqDiff, Nat.reduceBEq, Nat.reduceBNe, Int.reduceToNat, Int.reduceLT, Int.reduceLE, Int.reduceNeg, reduceCtorEq, Int.reduceEq, Int.reduceNe, Bool.false_eq_true, decide_true, decide_false, beq_self_eq_true, true_and, and_true, ne_eq, not_true, not_false_eq_true, List.elem_cons, List.elem_nil, List.contains_cons, List.contains_nil, List.getD_cons_zero, List.getD_cons_succ, Int.cast_ofNat_Int, Bool.or_true, Bool.true_or, Bool.or_false, Bool.false_or, List.length_map, List.getElem?_map, e1, e2, e3, e4, s0, s1, segW_len, Int.natCast_nonneg, Int.toNat_natCast]
    refine QFn.use _ awake (by simp (config := {maxSteps := 1000000, dsimp := false, implicitDefEqProofs := false}) only [go_sem, ↓reduceIte, Nat.reduceAdd, Nat.reduceSub, Nat.reduceMul, Nat.reduceLT, Nat.reduceLeDiff, Nat.reduceEqDiff, Nat.reduceBEq, Nat.reduceBNe, Int.reduceToNat, Int.reduceLT, Int.reduceLE, Int.reduceNeg, reduceCtorEq, Int.reduceEq, Int.reduceNe, Bool.false_eq_true, decide_true, decide_false, beq_self_eq_true, true_and, and_true, ne_eq, not_true, not_false_eq_true, List.elem_cons, List.elem_nil, List.contains_cons, List.contains_nil, List.getD_cons_zero, List.getD_cons_succ, Int.cast_ofNat_Int, Bool.or_true, Bool.true_or, Bool.or_false, Bool.false_or]) ?_
    simp (config := {maxSteps := 1000000, dsimp := false, implicitDefEqProofs := false}) only [go_sem, ↓reduceIte, Nat.reduceAdd, Nat.reduceSub, Nat.reduceMul, Nat.reduceLT, Nat.reduceLeDiff, Nat.reduceEqDiff, Nat.reduceBEq, Nat.reduceBNe, Int.reduceToNat, Int.reduceLT, Int.reduceLE, Int.reduceNeg, reduceCtorEq, Int.reduceEq, Int.reduceNe, Bool.false_eq_true, decide_true, decide_false, beq_self_eq_true, true_and, and_true, ne_eq, not_true, not_false_eq_true, List.elem_cons, List.elem_nil, List.contains_cons, List.contains_nil, List.getD_cons_zero, List.getD_cons_succ, Int.cast_ofNat_Int, Bool.or_true, Bool.true_or, Bool.or_false, Bool.false_or]
  · rw [if_neg hc] at f1
    refine AtFn.pure0 f1 ?_
    simp (config := {maxSteps := 1000000, dsimp := false, implicitDefEqProofs := false}) only [go_sem, ↓reduceIte, Nat.reduceAdd, Nat.reduceSub, Nat.reduceMul, Nat.reduceLT, Nat.reduceLeDiff, Nat.reduceEqDiff, Nat.reduceBEq, Nat.reduceBNe, Int.reduceToNat, Int.reduceLT, Int.reduceLE, Int.reduceNeg, reduceCtorEq, Int.reduceEq, Int.reduceNe, Bool.false_eq_true, decide_true, decide_false, beq_self_eq_true, true_and, and_true, ne_eq, not_true, not_false_eq_true, List.elem_cons, List.elem_nil, List.contains_cons, List.contains_nil, List.getD_cons_zero, List.getD_cons_succ, Int.cast_ofNat_Int, Bool.or_true, Bool.true_or, Bool.or_false, Bool.false_or]
    refine AtFn.pure0 awake ?_
    simp (config := {maxSteps := 1000000, dsimp := false, implicitDefEqProofs := false}) only [go_sem, ↓reduceIte, Nat.reduceAdd, Nat.reduceSub, Nat.reduceMul, Nat.reduceLT, Nat.reduceLeDiff, Nat.reduceEqDiff, Nat.reduceBEq, Nat.reduceBNe, Int.reduceToNat, Int.reduceLT, Int.reduceLE, Int.reduceNeg, reduceCtorEq, Int.reduceEq, Int.reduceNe, Bool.false_eq_true, decide_true, decide_false, beq_self_eq_true, true_and, and_true, ne_eq, not_true, not_false_eq_true, List.elem_cons, List.elem_nil, List.contains_cons, List.contains_nil, List.getD_cons_zero, List.getD_cons_succ, Int.cast_ofNat_Int, Bool.or_true, Bool.true_or, Bool.or_false, Bool.false_or]

end

end Go.Proofs.Ytdhdopmjaibggaa
