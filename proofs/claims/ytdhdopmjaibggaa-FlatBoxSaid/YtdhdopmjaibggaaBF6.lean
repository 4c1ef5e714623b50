/- What functions of the given program answer, part 6. Conditions: each theorem speaks for itself. -/
import Derived.Test.YtdhdopmjaibggaaBTy
import Derived.Test.YtdhdopmjaibggaaBE7
import Derived.Test.YtdhdopmjaibggaaBF1
import Derived.Test.YtdhdopmjaibggaaBF2
import Derived.Test.YtdhdopmjaibggaaBF3
import Derived.Test.YtdhdopmjaibggaaBF4
import Derived.Test.YtdhdopmjaibggaaBF5
set_option linter.unusedSimpArgs false
set_option linter.unusedVariables false
namespace Go.Proofs.Ytdhdopmjaibggaa
open Go Go.Eng Go.RowKit
attribute [local go_sem ↓] qE_move qE_assign qE_pick qE_load qE_fieldAddr qE_indexAddr qE_field qE_extract qE_binOp qE_neg qE_not qE_convert qE_makeFunc qE_build qE_len qE_max2 qE_min2 qE_max3 qE_min3 qE_max4 qE_nilCheck qE_slice vc_end vc_skip vc_label vc_ret vc_seq vc_cond vc_block vc_exit vc_region vc_draw vc_rangeFunc vc_loop vc_blk vc_lp vc_o_nil vc_o vc_o_guard onK_eq oK_move oK_assign oK_pick oK_load oK_fieldAddr oK_indexAddr oK_field oK_index oK_extract oK_binOp oK_unOp oK_convert oK_makeFunc oK_nilCheck oK_slice oK_build oK_len oK_max oK_min onN_eq oK_box oK_alloc oK_buildSlice oK_makeSlice onH_eq oK_store onA_eq oK_append oK_call oK_makeMap oK_lookup oK_mapUpdate oK_range oK_next oK_copy oK_clear bV_add bV_sub bV_mul bV_quo bV_rem bV_and bV_or bV_xor bV_shl bV_shr bV_eql bV_neq bV_lss bV_leq bV_gtr bV_geq bV_add_s bV_eql_s bV_neq_s vcQ_nil vcQ_cons vcQ_guard Q_move Q_assign Q_pick Q_load Q_fieldAddr Q_indexAddr Q_field Q_index Q_extract Q_binOp Q_unOp Q_convert Q_makeFunc Q_nilCheck Q_slice Q_build Q_len Q_max Q_min Q_box Q_alloc Q_buildSlice onQA_eq Q_append Q_call qE_index tailB_nil tailB_true onS_eq tailB_store onP_eq tailB_append onQ_eq onQB_eq loadE indexE
attribute [local go_sem] force_eq optK_some optK_none optE_some optE_none vK_v bK_v gK_g tK_t fnK_fn fyK_fn fyK_y nK_ptr nK_rp nK_fn pK_ptr pK_rp brK_true brK_false brK_not evA_tmp evA_const evA_func putA_some putA_none pushA_eq slots_zero slots_nil tl_nil tl_cons find_cons find_nil setN_cons setN_nil dropN_nil dropN_none dropN_cons loE_none loE_some hiE_none hiE_some slE_sl slE_ro slE_str bE_i bE_s bE_beq bE_bne bE_eql bE_neq intsA_nil intsA_cons gdK_b gdK_u popTo_blk popTo_c popTo_o popTo_lp srcE_ro srcE_sl srcE_ez srcE_nil srcE_str dstE_sl dstE_nil dstE_ez fin_eq res_nil res_tmp res_cell tup1 tup2 tup3 tup0 optA_some optA_none frz_v frz_ro frz_rp frz_ez nm_ez frz_unk frz_t frz_g frz_fn frz_ptr frz_sl optL_some optL_none nm_v nm_ro nm_rp nm_unk nm_t nm_g nm_fn nm_ptr nm_sl cells_v cells_g cells_ro cells_ez cells_rp cells_ptr cells_sl cells_fn one_int one_bool one_string one_slice one_pointer one_nilFunc oneA_v oneA_ro oneA_ez oneA_rp oneA_ptr oneA_sl oneA_fn ofV_int ofV_bool ofV_string ofV_slice ofV_nilFunc ofV_pointer ofV_agg len_ro len_ez len_sl len_nil asI_int fill_nil fill_cons chunks_nil chunks_cons take_all DrawK_eq tailT_leaf tailT_step tailT_both idR_eq addB_some roB_nil roB_cons dstQ_nil dstQ_ez sg_nil sg_cons ren_unk ren_v ren_nil ren_ptr ren_sl ren_ro ren_rp iK_ro iK_sl ixE_g ixE_s RfEnd_eq RfQ_eq RfBody_eq takeA_00 takeA_s rest_eq updL_cons updL_nil nil_eq maskE_eq wrap_wr brK_dec maskH_eq upd_get slots_succ Cl_v Cl_ro Cl_rp Cl_fn Cl_g Cl_t Cl_unk Cl_ez if_true if_false List.toList_toArray List.map_cons List.map_nil List.cons_append List.nil_append List.append_nil List.flatMap_cons List.flatMap_nil List.getElem?_cons_zero List.getElem?_cons_succ List.length_cons List.length_nil List.drop_succ_cons List.drop_zero List.take_succ_cons List.take_zero List.all_cons List.all_nil List.set_cons_zero List.set_cons_succ Option.bind_some Option.bind_none Option.map_some Option.map_none List.headD_cons List.tail_cons List.getElem?_toArray beq_true beq_false Bool.not_true Bool.not_false Bool.true_and Bool.and_true Bool.false_and Bool.and_false newCh List.replicate_succ List.replicate_zero Option.some.injEq exists_eq_left' sg_nil sg_cons List.mem_cons List.not_mem_nil forall_eq_or_imp forall_eq false_implies implies_true or_false false_or false_and and_false or_true true_or exists_false Option.isSome_some Option.isSome_none List.range_zero
attribute [local go_sem] T.sz2 T.by2 T.ag2 T.sl2 T.ar2 T.pt2 T.ik2 T.us2 T.ze2 T.sz3 T.by3 T.ag3 T.sl3 T.ar3 T.pt3 T.ik3 T.us3 T.ze3 T.sz4 T.by4 T.ag4 T.sl4 T.ar4 T.pt4 T.ik4 T.us4 T.bo4 T.ze4 T.sz5 T.by5 T.ag5 T.sl5 T.ar5 T.pt5 T.ik5 T.us5 T.ze5 T.sz6 T.by6 T.ag6 T.sl6 T.ar6 T.pt6 T.ik6 T.us6 T.ze6 T.sz7 T.by7 T.ag7 T.sl7 T.ar7 T.pt7 T.ik7 T.us7 T.ze7 T.fl7_0 T.fl7_1 T.fl7_2 T.fl7_3 T.bu7 T.sz8 T.by8 T.ag8 T.sl8 T.ar8 T.pt8 T.ik8 T.us8 T.ze8 T.fl8_0 T.fl8_1 T.fl8_2 T.fl8_3 T.bu8 T.sz9 T.by9 T.ag9 T.sl9 T.ar9 T.pt9 T.ik9 T.us9 T.st9 T.ze9 T.sz10 T.by10 T.ag10 T.sl10 T.ar10 T.pt10 T.ik10 T.us10 T.st10 T.ze10 T.sz11 T.by11 T.ag11 T.sl11 T.ar11 T.pt11 T.ik11 T.us11 T.st11 T.ze11 T.sz12 T.by12 T.ag12 T.sl12 T.ar12 T.pt12 T.ik12 T.us12 T.ze12 T.sz13 T.by13 T.ag13 T.sl13 T.ar13 T.pt13 T.ik13 T.us13 T.ze13 T.fl13_0 T.fl13_1 T.bu13 T.sz14 T.by14 T.ag14 T.sl14 T.ar14 T.pt14 T.ik14 T.us14 T.ze14 T.fl14_0 T.fl14_1 T.bu14 T.sz15 T.by15 T.ag15 T.sl15 T.ar15 T.pt15 T.ik15 T.us15 T.ze15 T.sz16 T.by16 T.ag16 T.sl16 T.ar16 T.pt16 T.ik16 T.us16 T.ze16 T.sz17 T.by17 T.ag17 T.sl17 T.ar17 T.pt17 T.ik17 T.us17 T.ze17 T.sz18 T.by18 T.ag18 T.sl18 T.ar18 T.pt18 T.ik18 T.us18 T.ze18 T.fl18_0 T.bu18 T.sz19 T.by19 T.ag19 T.sl19 T.ar19 T.pt19 T.ik19 T.us19 T.ze19 T.fl19_0 T.bu19 T.sz21 T.by21 T.ag21 T.sl21 T.ar21 T.pt21 T.ik21 T.us21 T.ze21 T.sz22 T.by22 T.ag22 T.sl22 T.ar22 T.pt22 T.ik22 T.us22 T.ze22 T.fl22_0 T.fl22_1 T.bu22 T.sz23 T.by23 T.ag23 T.sl23 T.ar23 T.pt23 T.ik23 T.us23 T.ze23 T.fl23_0 T.fl23_1 T.bu23 T.sz24 T.by24 T.ag24 T.sl24 T.ar24 T.pt24 T.ik24 T.us24 T.ze24 T.bu24 T.sz25 T.by25 T.ag25 T.sl25 T.ar25 T.pt25 T.ik25 T.us25 T.ze25 T.sz28 T.by28 T.ag28 T.sl28 T.ar28 T.pt28 T.ik28 T.us28 T.ze28 T.sz36 T.by36 T.ag36 T.sl36 T.ar36 T.pt36 T.ik36 T.us36 T.ze36 T.sz37 T.by37 T.ag37 T.sl37 T.ar37 T.pt37 T.ik37 T.us37 T.ze37 T.fl37_0 T.fl37_1 T.bu37 T.sz38 T.by38 T.ag38 T.sl38 T.ar38 T.pt38 T.ik38 T.us38 T.ze38 T.fl38_0 T.fl38_1 T.bu38 T.sz52 T.by52 T.ag52 T.sl52 T.ar52 T.pt52 T.ik52 T.us52 T.ze52 T.bu52 T.sz58 T.by58 T.ag58 T.sl58 T.ar58 T.pt58 T.ik58 T.us58 T.ze58 T.bu58 T.sz73 T.by73 T.ag73 T.sl73 T.ar73 T.pt73 T.ik73 T.us73 T.ze73 T.bu73 T.sz87 T.by87 T.ag87 T.sl87 T.ar87 T.pt87 T.ik87 T.us87 T.ze87 T.fl87_0 T.fl87_1 T.fl87_2 T.fl87_3 T.bu87 T.sz88 T.by88 T.ag88 T.sl88 T.ar88 T.pt88 T.ik88 T.us88 T.ze88 T.fl88_0 T.fl88_1 T.fl88_2 T.fl88_3 T.bu88 T.sz89 T.by89 T.ag89 T.sl89 T.ar89 T.pt89 T.ik89 T.us89 T.ze89 T.bu89 T.sz90 T.by90 T.ag90 T.sl90 T.ar90 T.pt90 T.ik90 T.us90 T.ze90 T.fl90_0 T.sz91 T.by91 T.ag91 T.sl91 T.ar91 T.pt91 T.ik91 T.us91 T.ze91 T.fl91_0 T.sz92 T.by92 T.ag92 T.sl92 T.ar92 T.pt92 T.ik92 T.us92 T.ze92 T.sz93 T.by93 T.ag93 T.sl93 T.ar93 T.pt93 T.ik93 T.us93 T.ze93 T.sz94 T.by94 T.ag94 T.sl94 T.ar94 T.pt94 T.ik94 T.us94 T.ze94 T.sz96 T.by96 T.ag96 T.sl96 T.ar96 T.pt96 T.ik96 T.us96 T.ze96 T.sz97 T.by97 T.ag97 T.sl97 T.ar97 T.pt97 T.ik97 T.us97 T.ze97 T.sz98 T.by98 T.ag98 T.sl98 T.ar98 T.pt98 T.ik98 T.us98 T.ze98 T.sz99 T.by99 T.ag99 T.sl99 T.ar99 T.pt99 T.ik99 T.us99 T.ze99 T.fl99_0 T.fl99_1 T.fl99_2 T.fl99_3 T.fl99_4 T.fl99_5 T.fl99_6 T.fl99_7 T.fl99_8 T.fl99_9 T.fl99_10 T.sz100 T.by100 T.ag100 T.sl100 T.ar100 T.pt100 T.ik100 T.us100 T.ze100 T.fl100_0 T.fl100_1 T.fl100_2 T.fl100_3 T.fl100_4 T.fl100_5 T.fl100_6 T.fl100_7 T.fl100_8 T.fl100_9 T.fl100_10 T.sz101 T.by101 T.ag101 T.sl101 T.ar101 T.pt101 T.ik101 T.us101 T.ze101
section
set_option maxRecDepth 20000
attribute [local go_sem] clPts eqk23' eqk52'
theorem fold_le : ∀ (l : List (Int × Int)) (b : (Int × Int) × (Int × Int)),
    ((l.foldl step b).1.1 ≤ b.1.1 ∧ (l.foldl step b).1.2 ≤ b.1.2 ∧ b.2.1 ≤ (l.foldl step b).2.1 ∧ b.2.2 ≤ (l.foldl step b).2.2) ∧
    ∀ p ∈ l, (l.foldl step b).1.1 ≤ p.1 ∧ p.1 ≤ (l.foldl step b).2.1 ∧ (l.foldl step b).1.2 ≤ p.2 ∧ p.2 ≤ (l.foldl step b).2.2
  | [], b => ⟨by simp, by simp⟩
  | q :: r, b => by
    obtain ⟨h1, h2⟩ := fold_le r (step b q)
    simp only [List.foldl_cons]
    simp only [step] at h1
    refine ⟨by simp only [step]; omega, fun p hp => ?_⟩
    rcases List.mem_cons.1 hp with rfl | hp
    · simp only [step]; omega
    · exact h2 p hp
theorem fold_in (x0 x1 y0 y1 : Int) : ∀ (l : List (Int × Int)) (b : (Int × Int) × (Int × Int)),
    (x0 ≤ b.1.1 ∧ b.2.1 ≤ x1 ∧ y0 ≤ b.1.2 ∧ b.2.2 ≤ y1) → (∀ p ∈ l, x0 ≤ p.1 ∧ p.1 ≤ x1 ∧ y0 ≤ p.2 ∧ p.2 ≤ y1) →
    x0 ≤ (l.foldl step b).1.1 ∧ (l.foldl step b).2.1 ≤ x1 ∧ y0 ≤ (l.foldl step b).1.2 ∧ (l.foldl step b).2.2 ≤ y1
  | [], b, h, _ => h
  | q :: r, b, h, hp => by
    have hq := hp q (List.mem_cons_self ..)
    exact fold_in x0 x1 y0 y1 r (step b q) (by simp only [step]; omega) fun p h' => hp p (List.mem_cons_of_mem _ h')
theorem bounds_le (l : List (Int × Int)) (p : Int × Int) (hp : p ∈ l) : (boundsW l).1.1 ≤ p.1 ∧ p.1 ≤ (boundsW l).2.1 ∧ (boundsW l).1.2 ≤ p.2 ∧ p.2 ≤ (boundsW l).2.2 := (fold_le l _).2 p hp
theorem getD_mem {l : List (Int × Int)} {i : Nat} (h : i < l.length) : l.getD i (0, 0) ∈ l := List.mem_of_getElem? (getD_some h (0, 0))
theorem line_hull (l : List (Int × Int)) (h0 : 1 ≤ l.length) (ha : l.all inP = true) (x0 x1 y0 y1 : Int) (h : ∀ p ∈ l, x0 ≤ p.1 ∧ p.1 ≤ x1 ∧ y0 ≤ p.2 ∧ p.2 ≤ y1) :
    ∀ p ∈ lineW l, x0 ≤ p.1 ∧ p.1 ≤ x1 ∧ y0 ≤ p.2 ∧ p.2 ≤ y1 := by
  intro p hp
  rw [List.all_eq_true] at ha
  unfold lineW at hp
  rcases List.mem_cons.1 hp with rfl | hp
  · exact h _ (getD_mem (by omega))
  · obtain ⟨s, hs, hp⟩ := List.mem_flatMap.1 hp
    obtain ⟨i, hi, rfl⟩ := List.mem_map.1 hs
    have hi' : i < l.length / 3 := List.mem_range.1 hi
    have m1 := getD_mem (l := l) (i := 3 * i) (by omega)
    have m2 := getD_mem (l := l) (i := 3 * i + 1) (by omega)
    have m3 := getD_mem (l := l) (i := 3 * i + 2) (by omega)
    have m4 := getD_mem (l := l) (i := (3 * i + 3) % l.length) (Nat.mod_lt _ (by omega))
    refine segW_hull _ _ _ _ x0 x1 y0 y1 ?_ (h _ m1) (h _ m2) (h _ m3) (h _ m4) p (List.mem_of_mem_tail hp)
    simp only [segs, ha _ m1, ha _ m2, ha _ m3, ha _ m4, Bool.and_true]
theorem box_in (l : List (Int × Int)) (h0 : 1 ≤ l.length) (ha : l.all inP = true) :
    (boundsW l).1.1 ≤ (boundsW (lineW l)).1.1 ∧ (boundsW (lineW l)).2.1 ≤ (boundsW l).2.1 ∧ (boundsW l).1.2 ≤ (boundsW (lineW l)).1.2 ∧ (boundsW (lineW l)).2.2 ≤ (boundsW l).2.2 := by
  have hl := line_hull l h0 ha _ _ _ _ (bounds_le l)
  have hp := lineW_pos l
  have h1 := hl _ (getD_mem (l := lineW l) (i := 0) (by omega))
  exact fold_in _ _ _ _ (lineW l) _ ⟨h1.1, h1.2.1, h1.2.2.1, h1.2.2.2⟩ hl
theorem flatBox (l : List (Int × Int)) (c : Bool) : PFun Try.prog 9 [Pa l c] (Bo true) := by
  refine PFun.intro 400 mixed Try.func9 (by kernel_rfl) rfl (by first | exact .v _ | (simp [Cl_v, Cl_t, Cl_g, Cl_fn, Cl_rp, Cl_ro]; done) | (simp [Cl_v, Cl_t, Cl_g, Cl_fn, Cl_rp, Cl_ro, or_imp, forall_and]; done) | (split <;> simp [Cl_v, Cl_t, Cl_g, Cl_fn, Cl_rp, Cl_ro])) (Nat.le_of_ble_eq_true rfl) ?_; rw [Try.ntmps9, Try.results9]
  simp (config := {maxSteps := 1000000, dsimp := false, implicitDefEqProofs := false}) only [go_sem, ↓reduceIte, Nat.reduceAdd, Nat.reduceSub, Nat.reduceMul, Nat.reduceLT, Nat.reduceLeDiff, Nat.reduceEqDiff, Nat.reduceBEq, Nat.reduceBNe, Int.reduceToNat, Int.reduceLT, Int.reduceLE, Int.reduceNeg, reduceCtorEq, Int.reduceEq, Int.reduceNe, Bool.false_eq_true, decide_true, decide_false, beq_self_eq_true, true_and, and_true, ne_eq, not_true, not_false_eq_true, List.elem_cons, List.elem_nil, List.contains_cons, List.contains_nil, List.getD_cons_zero, List.getD_cons_succ, Int.cast_ofNat_Int, Bool.or_true, Bool.true_or, Bool.or_false, Bool.false_or]
  refine AtFn.pure0 (few l c) ?_
  simp (config := {maxSteps := 1000000, dsimp := false, implicitDefEqProofs := false}) only [go_sem, ↓reduceIte, Nat.reduceAdd, Nat.reduceSub, Nat.reduceMul, Nat.reduceLT, Nat.reduceLeDiff, Nat.reduceEqDiff, Nat.reduceBEq, Nat.reduceBNe, Int.reduceToNat, Int.reduceLT, Int.reduceLE, Int.reduceNeg, reduceCtorEq, Int.reduceEq, Int.reduceNe, Bool.false_eq_true, decide_true, decide_false, beq_self_eq_true, true_and, and_true, ne_eq, not_true, not_false_eq_true, List.elem_cons, List.elem_nil, List.contains_cons, List.contains_nil, List.getD_cons_zero, List.getD_cons_succ, Int.cast_ofNat_Int, Bool.or_true, Bool.true_or, Bool.or_false, Bool.false_or]
  refine ⟨fun h => ?_, fun h => ?_⟩
  · have hn : l.length ≤ 60 := by simpa using h
    have hs : l.length < 2 ^ 20 := by omega
    have f1 := Box l c hs
    have f2 := Line l c hs
    have h2 := lineW_len l hs
    have h1 := lineW_pos l
    cases hv : validW l c
    · rw [hv] at f1 f2
      simp only [Bool.false_eq_true, if_false] at f1 f2
      refine AtFn.pure0 f1 ?_
      simp (config := {maxSteps := 1000000, dsimp := false, implicitDefEqProofs := false}) only [go_sem, ↓reduceIte, Nat.reduceAdd, Nat.reduceSub, Nat.reduceMul, Nat.reduceLT, Nat.reduceLeDiff, Nat.reduceEqDiff, Nat.reduceBEq, Nat.reduceBNe, Int.reduceToNat, Int.reduceLT, Int.reduceLE, Int.reduceNeg, reduceCtorEq, Int.reduceEq, Int.reduceNe, Bool.false_eq_true, decide_true, decide_false, beq_self_eq_true, true_and, and_true, ne_eq, not_true, not_false_eq_true, List.elem_cons, List.elem_nil, List.contains_cons, List.contains_nil, List.getD_cons_zero, List.getD_cons_succ, Int.cast_ofNat_Int, Bool.or_true, Bool.true_or, Bool.or_false, Bool.false_or]
      refine AtFn.pure0 f2 ?_
      simp (config := {maxSteps := 1000000, dsimp := false, implicitDefEqProofs := false}) only [go_sem, ↓reduceIte, Nat.reduceAdd, Nat.reduceSub, Nat.reduceMul, Nat.reduceLT, Nat.reduceLeDiff, Nat.reduceEqDiff, Nat.reduceBEq, Nat.reduceBNe, Int.reduceToNat, Int.reduceLT, Int.reduceLE, Int.reduceNeg, reduceCtorEq, Int.reduceEq, Int.reduceNe, Bool.false_eq_true, decide_true, decide_false, beq_self_eq_true, true_and, and_true, ne_eq, not_true, not_false_eq_true, List.elem_cons, List.elem_nil, List.contains_cons, List.contains_nil, List.getD_cons_zero, List.getD_cons_succ, Int.cast_ofNat_Int, Bool.or_true, Bool.true_or, Bool.or_false, Bool.false_or]
      refine AtFn.pure0 awake ?_
      simp (config := {maxSteps := 1000000, dsimp := false, implicitDefEqProofs := false}) only [go_sem, ↓reduceIte, Nat.reduceAdd, Nat.reduceSub, Nat.reduceMul, Nat.reduceLT, Nat.reduceLeDiff, Nat.reduceEqDiff, Nat.reduceBEq, Nat.reduceBNe, Int.reduceToNat, Int.reduceLT, Int.reduceLE, Int.reduceNeg, reduceCtorEq, Int.reduceEq, Int.reduceNe, Bool.false_eq_true, decide_true, decide_false, beq_self_eq_true, true_and, and_true, ne_eq, not_true, not_false_eq_true, List.elem_cons, List.elem_nil, List.contains_cons, List.contains_nil, List.getD_cons_zero, List.getD_cons_succ, Int.cast_ofNat_Int, Bool.or_true, Bool.true_or, Bool.or_false, Bool.false_or]
    · rw [hv] at f1 f2
      simp only [if_true] at f1 f2
      have hv' := (validW_iff l c (by omega)).1 hv
      have h0 : 1 ≤ l.length := by cases c <;> simp at hv' <;> omega
      have hb := box_in l h0 hv'.2.2.2
      have n1 : ¬ (boundsW (lineW l)).1.1 < (boundsW l).1.1 := by omega
      have n2 : ¬ (boundsW (lineW l)).1.2 < (boundsW l).1.2 := by omega
      have n3 : ¬ (boundsW (lineW l)).2.1 > (boundsW l).2.1 := by omega
      have n4 : ¬ (boundsW (lineW l)).2.2 > (boundsW l).2.2 := by omega
      have n5 : ¬ (boundsW l).2.1 < (boundsW (lineW l)).2.1 := by omega
      have n6 : ¬ (boundsW l).2.2 < (boundsW (lineW l)).2.2 := by omega
      refine AtFn.pure0 f1 ?_
      simp (config := {maxSteps := 1000000, dsimp := false, implicitDefEqProofs := false}) only [go_sem, ↓reduceIte, Nat.reduceAdd, Nat.reduceSub, Nat.reduceMul, Nat.reduceLT, Nat.reduceLeDiff, Nat.reduceEqDiff, Nat.reduceBEq, Nat.reduceBNe, Int.reduceToNat, Int.reduceLT, Int.reduceLE, Int.reduceNeg, reduceCtorEq, Int.reduceEq, Int.reduceNe, Bool.false_eq_true, decide_true, decide_false, beq_self_eq_true, true_and, and_true, ne_eq, not_true, not_false_eq_true, List.elem_cons, List.elem_nil, List.contains_cons, List.contains_nil, List.getD_cons_zero, List.getD_cons_succ, Int.cast_ofNat_Int, Bool.or_true, Bool.true_or, Bool.or_false, Bool.false_or]
      refine AtFn.pure0 f2 ?_
      simp (config := {maxSteps := 1000000, dsimp := false, implicitDefEqProofs := false}) only [go_sem, ↓reduceIte, Nat.reduceAdd, Nat.reduceSub, Nat.reduceMul, Nat.reduceLT, Nat.reduceLeDiff, Nat.reduceEqDiff, Nat.reduceBEq, Nat.reduceBNe, Int.reduceToNat, Int.reduceLT, Int.reduceLE, Int.reduceNeg, reduceCtorEq, Int.reduceEq, Int.reduceNe, Bool.false_eq_true, decide_true, decide_false, beq_self_eq_true, true_and, and_true, ne_eq, not_true, not_false_eq_true, List.elem_cons, List.elem_nil, List.contains_cons, List.contains_nil, List.getD_cons_zero, List.getD_cons_succ, Int.cast_ofNat_Int, Bool.or_true, Bool.true_or, Bool.or_false, Bool.false_or]
      refine AtFn.pure0 (rBounds l h0 (by omega)) ?_
      simp (config := {maxSteps := 1000000, dsimp := false, implicitDefEqProofs := false}) only [go_sem, ↓reduceIte, Nat.reduceAdd, Nat.reduceSub, Nat.reduceMul, Nat.reduceLT, Nat.reduceLeDiff, Nat.reduceEqDiff, Nat.reduceBEq, Nat.reduceBNe, Int.reduceToNat, Int.reduceLT, Int.reduceLE, Int.reduceNeg, reduceCtorEq, Int.reduceEq, Int.reduceNe, Bool.false_eq_true, decide_true, decide_false, beq_self_eq_true, true_and, and_true, ne_eq, not_true, not_false_eq_true, List.elem_cons, List.elem_nil, List.contains_cons, List.contains_nil, List.getD_cons_zero, List.getD_cons_succ, Int.cast_ofNat_Int, Bool.or_true, Bool.true_or, Bool.or_false, Bool.false_or, n1, n2, n3, n4, n5, n6]
      refine AtCode.draw 8 [([], []), ([], []), ([1], []), ([0, 1, 2], []), ([0, 1, 2, 3], []), ([0, 1, 2, 3, 4], []), ([0, 1, 2, 3, 4, 5], []), ([0, 1, 2, 3, 4, 5, 6], [])] (by kernel_rfl) ?_
      simp (config := {maxSteps := 1000000, dsimp := false, implicitDefEqProofs := false}) only [go_sem, ↓reduceIte, Nat.reduceAdd, Nat.reduceSub, Nat.reduceMul, Nat.reduceLT, Nat.reduceLeDiff, Nat.reduceEqDiff, Nat.reduceBEq, Nat.reduceBNe, Int.reduceToNat, Int.reduceLT, Int.reduceLE, Int.reduceNeg, reduceCtorEq, Int.reduceEq, Int.reduceNe, Bool.false_eq_true, decide_true, decide_false, beq_self_eq_true, true_and, and_true, ne_eq, not_true, not_false_eq_true, List.elem_cons, List.elem_nil, List.contains_cons, List.contains_nil, List.getD_cons_zero, List.getD_cons_succ, Int.cast_ofNat_Int, Bool.or_true, Bool.true_or, Bool.or_false, Bool.false_or]
      refine QFn.use _ (rBounds _ h1 (by omega)) (by simp (config := {maxSteps := 1000000, dsimp := false, implicitDefEqProofs := false}) only [go_sem, ↓reduceIte, Nat.reduceAdd, Nat.reduceSub, Nat.reduceMul, Nat.reduceLT, Nat.reduceLeDiff, Nat.reduceEqDiff, Nat.reduceBEq, Nat.reduceBNe, Int.reduceToNat, Int.reduceLT, Int.reduceLE, Int.reduceNeg, reduceCtorEq, Int.reduceEq, Int.reduceNe, Bool.false_eq_true, decide_true, decide_false, beq_self_eq_true, true_and, and_true, ne_eq, not_true, not_false_eq_true, List.elem_cons, List.elem_nil, List.contains_cons, List.contains_nil, List.getD_cons_zero, List.getD_cons_succ, Int.cast_ofNat_Int, Bool.or_true, Bool.true_or, Bool.or_false, Bool.false_or]) ?_
      simp (config := {maxSteps := 1000000, dsimp := false, implicitDefEqProofs := false}) only [go_sem, ↓reduceIte, Nat.reduceAdd, Nat.reduceSub, Nat.reduceMul, Nat.reduceLT, Nat.reduceLeDiff, Nat.reduceEqDiff, Nat.reduceBEq, Nat.reduceBNe, Int.reduceToNat, Int.reduceLT, Int.reduceLE, Int.reduceNeg, reduceCtorEq, Int.reduceEq, Int.reduceNe, Bool.false_eq_true, decide_true, decide_false, beq_self_eq_true, true_and, and_true, ne_eq, not_true, not_false_eq_true, List.elem_cons, List.elem_nil, List.contains_cons, List.contains_nil, List.getD_cons_zero, List.getD_cons_succ, Int.cast_ofNat_Int, Bool.or_true, Bool.true_or, Bool.or_false, Bool.false_or]
      refine QFn.use _ awake (by simp (config := {maxSteps := 1000000, dsimp := false, implicitDefEqProofs := false}) only [go_sem, ↓reduceIte, Nat.reduceAdd, Nat.reduceSub, Nat.reduceMul, Nat.reduceLT, Nat.reduceLeDiff, Nat.reduceEqDiff, Nat.reduceBEq, Nat.reduceBNe, Int.reduceToNat, Int.reduceLT, Int.reduceLE, Int.reduceNeg, reduceCtorEq, Int.reduceEq, Int.reduceNe, Bool.false_eq_true, decide_true, decide_false, beq_self_eq_true, true_and, and_true, ne_eq, not_true, not_false_eq_true, List.elem_cons, List.elem_nil, List.contains_cons, List.contains_nil, List.getD_cons_zero, List.getD_cons_succ, Int.cast_ofNat_Int, Bool.or_true, Bool.true_or, Bool.or_false, Bool.false_or]) ?_
      simp (config := {maxSteps := 1000000, dsimp := false, implicitDefEqProofs := false}) only [go_sem, ↓reduceIte, Nat.reduceAdd, Nat.reduceSub, Nat.reduceMul, Nat.reduceLT, Nat.reduceLeDiff, Nat.reduceEqDiff, Nat.reduceBEq, Nat.reduceBNe, Int.reduceToNat, Int.reduceLT, Int.reduceLE, Int.reduceNeg, reduceCtorEq, Int.reduceEq, Int.reduceNe, Bool.false_eq_true, decide_true, decide_false, beq_self_eq_true, true_and, and_true, ne_eq, not_true, not_false_eq_true, List.elem_cons, List.elem_nil, List.contains_cons, List.contains_nil, List.getD_cons_zero, List.getD_cons_succ, Int.cast_ofNat_Int, Bool.or_true, Bool.true_or, Bool.or_false, Bool.false_or]
  · refine AtFn.pure0 awake ?_
    simp (config := {maxSteps := 1000000, dsimp := false, implicitDefEqProofs := false}) only [go_sem, ↓reduceIte, Nat.reduceAdd, Nat.reduceSub, Nat.reduceMul, Nat.reduceLT, Nat.reduceLeDiff, Nat.reduceEqDiff, Nat.reduceBEq, Nat.reduceBNe, Int.reduceToNat, Int.reduceLT, Int.reduceLE, Int.reduceNeg, reduceCtorEq, Int.reduceEq, Int.reduceNe, Bool.false_eq_true, decide_true, decide_false, beq_self_eq_true, true_and, and_true, ne_eq, not_true, not_false_eq_true, List.elem_cons, List.elem_nil, List.contains_cons, List.contains_nil, List.getD_cons_zero, List.getD_cons_succ, Int.cast_ofNat_Int, Bool.or_true, Bool.true_or, Bool.or_false, Bool.false_or]

end

end Go.Proofs.Ytdhdopmjaibggaa
