/- What functions of the given program answer, part 6. Conditions: each theorem speaks for itself. -/
import Derived.Test.YtdhdopmjaibggaaBTy
import Derived.Test.YtdhdopmjaibggaaBE7
import Derived.Test.YtdhdopmjaibggaaBF1
import Derived.Test.YtdhdopmjaibggaaBF2
import Derived.Test.YtdhdopmjaibggaaBF3
import Derived.Test.YtdhdopmjaibggaaBF4
import Derived.Test.YtdhdopmjaibggaaBF5
set_option linter.unusedSimpArgs false
set_option linter.unusedVariables false
namespace Go.Proofs.Ytdhdopmjaibggaa
open Go Go.Eng Go.RowKit
attribute [local go_sem ↓] qE_move qE_assign qE_pick qE_load qE_fieldAddr qE_indexAddr qE_field qE_extract qE_binOp qE_neg qE_not qE_convert qE_makeFunc qE_build qE_len qE_max2 qE_min2 qE_max3 qE_min3 qE_max4 qE_nilCheck qE_slice vc_end vc_skip vc_label vc_ret vc_seq vc_cond vc_block vc_exit vc_region vc_draw vc_rangeFunc vc_loop vc_blk vc_lp vc_o_nil vc_o vc_o_guard onK_eq oK_move oK_assign oK_pick oK_load oK_fieldAddr oK_indexAddr oK_field oK_index oK_extract oK_binOp oK_unOp oK_convert oK_makeFunc oK_nilCheck oK_slice oK_build oK_len oK_max oK_min onN_eq oK_box oK_alloc oK_buildSlice oK_makeSlice onH_eq oK_store onA_eq oK_append oK_call oK_makeMap oK_lookup oK_mapUpdate oK_range oK_next oK_copy oK_clear bV_add bV_sub bV_mul bV_quo bV_rem bV_and bV_or bV_xor bV_shl bV_shr bV_eql bV_neq bV_lss bV_leq bV_gtr bV_geq bV_add_s bV_eql_s bV_neq_s vcQ_nil vcQ_cons vcQ_guard Q_move Q_assign Q_pick Q_load Q_fieldAddr Q_indexAddr Q_field Q_index Q_extract Q_binOp Q_unOp Q_convert Q_makeFunc Q_nilCheck Q_slice Q_build Q_len Q_max Q_min Q_box Q_alloc Q_buildSlice onQA_eq Q_append Q_call qE_index tailB_nil tailB_true onS_eq tailB_store onP_eq tailB_append onQ_eq onQB_eq loadE indexE
attribute [local go_sem] force_eq optK_some optK_none optE_some optE_none vK_v bK_v gK_g tK_t fnK_fn fyK_fn fyK_y nK_ptr nK_rp nK_fn pK_ptr pK_rp brK_true brK_false brK_not evA_tmp evA_const evA_func putA_some putA_none pushA_eq slots_zero slots_nil tl_nil tl_cons find_cons find_nil setN_cons setN_nil dropN_nil dropN_none dropN_cons loE_none loE_some hiE_none hiE_some slE_sl slE_ro slE_str bE_i bE_s bE_beq bE_bne bE_eql bE_neq intsA_nil intsA_cons gdK_b gdK_u popTo_blk popTo_c popTo_o popTo_lp srcE_ro srcE_sl srcE_ez srcE_nil srcE_str dstE_sl dstE_nil dstE_ez fin_eq res_nil res_tmp res_cell tup1 tup2 tup3 tup0 optA_some optA_none frz_v frz_ro frz_rp frz_ez nm_ez frz_unk frz_t frz_g frz_fn frz_ptr frz_sl optL_some optL_none nm_v nm_ro nm_rp nm_unk nm_t nm_g nm_fn nm_ptr nm_sl cells_v cells_g cells_ro cells_ez cells_rp cells_ptr cells_sl cells_fn one_int one_bool one_string one_slice one_pointer one_nilFunc oneA_v oneA_ro oneA_ez oneA_rp oneA_ptr oneA_sl oneA_fn ofV_int ofV_bool ofV_string ofV_slice ofV_nilFunc ofV_pointer ofV_agg len_ro len_ez len_sl len_nil asI_int fill_nil fill_cons chunks_nil chunks_cons take_all DrawK_eq tailT_leaf tailT_step tailT_both idR_eq addB_some roB_nil roB_cons dstQ_nil dstQ_ez sg_nil sg_cons ren_unk ren_v ren_nil ren_ptr ren_sl ren_ro ren_rp iK_ro iK_sl ixE_g ixE_s RfEnd_eq RfQ_eq RfBody_eq takeA_00 takeA_s rest_eq updL_cons updL_nil nil_eq maskE_eq wrap_wr brK_dec maskH_eq upd_get slots_succ Cl_v Cl_ro Cl_rp Cl_fn Cl_g Cl_t Cl_unk Cl_ez if_true if_false List.toList_toArray List.map_cons List.map_nil List.cons_append List.nil_append List.append_nil List.flatMap_cons List.flatMap_nil List.getElem?_cons_zero List.getElem?_cons_succ List.length_cons List.length_nil List.drop_succ_cons List.drop_zero List.take_succ_cons List.take_zero List.all_cons List.all_nil List.set_cons_zero List.set_cons_succ Option.bind_some Option.bind_none Option.map_some Option.map_none List.headD_cons List.tail_cons List.getElem?_toArray beq_true beq_false Bool.not_true Bool.not_false Bool.true_and Bool.and_true Bool.false_and Bool.and_false newCh List.replicate_succ List.replicate_zero Option.some.injEq exists_eq_left' sg_nil sg_cons List.mem_cons List.not_mem_nil forall_eq_or_imp forall_eq false_implies implies_true or_false false_or false_and and_false or_true true_or exists_false Option.isSome_some Option.isSome_none List.range_zero
attribute [local go_sem] T.sz2 T.by2 T.ag2 T.sl2 T.ar2 T.pt2 T.ik2 T.us2 T.ze2 T.sz3 T.by3 T.ag3 T.sl3 T.ar3 T.pt3 T.ik3 T.us3 T.ze3 T.sz4 T.by4 T.ag4 T.sl4 T.ar4 T.pt4 T.ik4 T.us4 T.bo4 T.ze4 T.sz5 T.by5 T.ag5 T.sl5 T.ar5 T.pt5 T.ik5 T.us5 T.ze5 T.sz6 T.by6 T.ag6 T.sl6 T.ar6 T.pt6 T.ik6 T.us6 T.ze6 T.sz7 T.by7 T.ag7 T.sl7 T.ar7 T.pt7 T.ik7 T.us7 T.ze7 T.fl7_0 T.fl7_1 T.fl7_2 T.fl7_3 T.bu7 T.sz8 T.by8 T.ag8 T.sl8 T.ar8 T.pt8 T.ik8 T.us8 T.ze8 T.fl8_0 T.fl8_1 T.fl8_2 T.fl8_3 T.bu8 T.sz9 T.by9 T.ag9 T.sl9 T.ar9 T.pt9 T.ik9 T.us9 T.st9 T.ze9 T.sz10 T.by10 T.ag10 T.sl10 T.ar10 T.pt10 T.ik10 T.us10 T.st10 T.ze10 T.sz11 T.by11 T.ag11 T.sl11 T.ar11 T.pt11 T.ik11 T.us11 T.st11 T.ze11 T.sz12 T.by12 T.ag12 T.sl12 T.ar12 T.pt12 T.ik12 T.us12 T.ze12 T.sz13 T.by13 T.ag13 T.sl13 T.ar13 T.pt13 T.ik13 T.us13 T.ze13 T.fl13_0 T.fl13_1 T.bu13 T.sz14 T.by14 T.ag14 T.sl14 T.ar14 T.pt14 T.ik14 T.us14 T.ze14 T.fl14_0 T.fl14_1 T.bu14 T.sz15 T.by15 T.ag15 T.sl15 T.ar15 T.pt15 T.ik15 T.us15 T.ze15 T.sz16 T.by16 T.ag16 T.sl16 T.ar16 T.pt16 T.ik16 T.us16 T.ze16 T.sz17 T.by17 T.ag17 T.sl17 T.ar17 T.pt17 T.ik17 T.us17 T.ze17 T.sz18 T.by18 T.ag18 T.sl18 T.ar18 T.pt18 T.ik18 T.us18 T.ze18 T.fl18_0 T.bu18 T.sz19 T.by19 T.ag19 T.sl19 T.ar19 T.pt19 T.ik19 T.us19 T.ze19 T.fl19_0 T.bu19 T.sz21 T.by21 T.ag21 T.sl21 T.ar21 T.pt21 T.ik21 T.us21 T.ze21 T.sz22 T.by22 T.ag22 T.sl22 T.ar22 T.pt22 T.ik22 T.us22 T.ze22 T.fl22_0 T.fl22_1 T.bu22 T.sz23 T.by23 T.ag23 T.sl23 T.ar23 T.pt23 T.ik23 T.us23 T.ze23 T.fl23_0 T.fl23_1 T.bu23 T.sz24 T.by24 T.ag24 T.sl24 T.ar24 T.pt24 T.ik24 T.us24 T.ze24 T.bu24 T.sz25 T.by25 T.ag25 T.sl25 T.ar25 T.pt25 T.ik25 T.us25 T.ze25 T.sz28 T.by28 T.ag28 T.sl28 T.ar28 T.pt28 T.ik28 T.us28 T.ze28 T.sz36 T.by36 T.ag36 T.sl36 T.ar36 T.pt36 T.ik36 T.us36 T.ze36 T.sz37 T.by37 T.ag37 T.sl37 T.ar37 T.pt37 T.ik37 T.us37 T.ze37 T.fl37_0 T.fl37_1 T.bu37 T.sz38 T.by38 T.ag38 T.sl38 T.ar38 T.pt38 T.ik38 T.us38 T.ze38 T.fl38_0 T.fl38_1 T.bu38 T.sz52 T.by52 T.ag52 T.sl52 T.ar52 T.pt52 T.ik52 T.us52 T.ze52 T.bu52 T.sz58 T.by58 T.ag58 T.sl58 T.ar58 T.pt58 T.ik58 T.us58 T.ze58 T.bu58 T.sz73 T.by73 T.ag73 T.sl73 T.ar73 T.pt73 T.ik73 T.us73 T.ze73 T.bu73 T.sz87 T.by87 T.ag87 T.sl87 T.ar87 T.pt87 T.ik87 T.us87 T.ze87 T.fl87_0 T.fl87_1 T.fl87_2 T.fl87_3 T.bu87 T.sz88 T.by88 T.ag88 T.sl88 T.ar88 T.pt88 T.ik88 T.us88 T.ze88 T.fl88_0 T.fl88_1 T.fl88_2 T.fl88_3 T.bu88 T.sz89 T.by89 T.ag89 T.sl89 T.ar89 T.pt89 T.ik89 T.us89 T.ze89 T.bu89 T.sz90 T.by90 T.ag90 T.sl90 T.ar90 T.pt90 T.ik90 T.us90 T.ze90 T.fl90_0 T.sz91 T.by91 T.ag91 T.sl91 T.ar91 T.pt91 T.ik91 T.us91 T.ze91 T.fl91_0 T.sz92 T.by92 T.ag92 T.sl92 T.ar92 T.pt92 T.ik92 T.us92 T.ze92 T.sz93 T.by93 T.ag93 T.sl93 T.ar93 T.pt93 T.ik93 T.us93 T.ze93 T.sz94 T.by94 T.ag94 T.sl94 T.ar94 T.pt94 T.ik94 T.us94 T.ze94 T.sz96 T.by96 T.ag96 T.sl96 T.ar96 T.pt96 T.ik96 T.us96 T.ze96 T.sz97 T.by97 T.ag97 T.sl97 T.ar97 T.pt97 T.ik97 T.us97 T.ze97 T.sz98 T.by98 T.ag98 T.sl98 T.ar98 T.pt98 T.ik98 T.us98 T.ze98 T.sz99 T.by99 T.ag99 T.sl99 T.ar99 T.pt99 T.ik99 T.us99 T.ze99 T.fl99_0 T.fl99_1 T.fl99_2 T.fl99_3 T.fl99_4 T.fl99_5 T.fl99_6 T.fl99_7 T.fl99_8 T.fl99_9 T.fl99_10 T.sz100 T.by100 T.ag100 T.sl100 T.ar100 T.pt100 T.ik100 T.us100 T.ze100 T.fl100_0 T.fl100_1 T.fl100_2 T.fl100_3 T.fl100_4 T.fl100_5 T.fl100_6 T.fl100_7 T.fl100_8 T.fl100_9 T.fl100_10 T.sz101 T.by101 T.ag101 T.sl101 T.ar101 T.pt101 T.ik101 T.us101 T.ze101
section
set_option maxRecDepth 20000
attribute [local go_sem] clPts eqk23' eqk52'
theorem fold_le : ∀ (l : List (Int × Int)) (b : (Int × Int) × (Int × Int)),
    ((l.foldl step b).1.1 ≤ b.1.1 ∧ (l.foldl step b).1.2 ≤ b.1.2 ∧ b.2.1 ≤ (l.foldl step b).2.1 ∧ b.2.2 ≤ (l.foldl step b).2.2) ∧
    ∀ p ∈ l, (l.foldl step b).1.1 ≤ p.1 ∧ p.1 ≤ (l.foldl step b).2.1 ∧ (l.foldl step b).1.2 ≤ p.2 ∧ p.2 ≤ (l.foldl step b).2.2
  | [], b => ⟨by simp, by simp⟩
  | q :: r, b => by
    obtain ⟨h1, h2⟩ := fold_le r (step b q)
    simp only [List.foldl_cons]
    simp only [step] at h1
    refine ⟨by simp only [step]; omega, fun p hp => ?_⟩
    rcases List.mem_cons.1 hp with rfl | hp
    · simp only [step]; omega
    · exact h2 p hp
theorem fold_in (x0 x1 y0 y1 : Int) : ∀ (l : List (Int × Int)) (b : (Int × Int) × (Int × Int)),
    (x0 ≤ b.1.1 ∧ b.2.1 ≤ x1 ∧ y0 ≤ b.1.2 ∧ b.2.2 ≤ y1) → (∀ p ∈ l, x0 ≤ p.1 ∧ p.1 ≤ x1 ∧ y0 ≤ p.2 ∧ p.2 ≤ y1) →
    x0 ≤ (l.foldl step b).1.1 ∧ (l.foldl step b).2.1 ≤ x1 ∧ y0 ≤ (l.foldl step b).1.2 ∧ (l.foldl step b).2.2 ≤ y1
  | [], b, h, _ => h
  | q :: r, b, h, hp => by
    have hq := hp q (List.mem_cons_self ..)
    exact fold_in x0 x1 y0 y1 r (step b q) (by simp only [step]; omega) fun p h' => hp p (List.mem_cons_of_mem _ h')
theorem bounds_le (l : List (Int × Int)) (p : Int × Int) (hp : p ∈ l) : (boundsW l).1.1 ≤ p.1 ∧ p.1 ≤ (boundsW l).2.1 ∧ (boundsW l).1.2 ≤ p.2 ∧ p.2 ≤ (boundsW l).2.2 := (fold_le l _).2 p hp
theorem getD_mem {l : List (Int × Int)} {i : Nat} (h : i < l.length) : l.getD i (0, 0) ∈ l := List.mem_of_getElem? (getD_some h (0, 0))
theorem line_hull (l : List (Int × Int)) (h0 : 1 ≤ l.length) (ha : l.all inP = true) (x0 x1 y0 y1 : Int) (h : ∀ p ∈ l, x0 ≤ p.1 ∧ p.1 ≤ x1 ∧ y0 ≤ p.2 ∧ p.2 ≤ y1) :
    ∀ p ∈ lineW l, x0 ≤ p.1 ∧ p.1 ≤ x1 ∧ y0 ≤ p.2 ∧ p.2 ≤ y1 := by
  intro p hp
  rw [List.all_eq_true] at ha
  unfold lineW at hp
  rcases List.mem_cons.1 hp with rfl | hp
  · exact h _ (getD_mem (by omega))
  · obtain ⟨s, hs, hp⟩ := List.mem_flatMap.1 hp
    obtain ⟨i, hi, rfl⟩ := List.mem_map.1 hs
    have hi' : i < l.length / 3 := List.mem_range.1 hi
    have m1 := getD_mem (l := l) (i := 3 * i) (by omega)
    have m2 := getD_mem (l := l) (i := 3 * i + 1) (by omega)
    have m3 := getD_mem (l := l) (i := 3 * i + 2) (by omega)
    have m4 := getD_mem (l := l) (i := (3 * i + 3) % l.length) (Nat.mod_lt _ (by omega))
    refine segW_hull _ _ _ _ x0 x1 y0 y1 ?_ (h _ m1) (h _ m2) (h _ m3) (h _ m4) p (List.mem_of_mem_tail hp)
    simp only [segs, ha _ m1, ha _ m2, ha _ m3, ha _ m4, Bool.and_true]
theorem box_in (l : List (Int × Int)) (h0 : 1 ≤ l.length) (ha : l.all inP = true) :
    (boundsW l).1.1 ≤ (boundsW (lineW l)).1.1 ∧ (boundsW (lineW l)).2.1 ≤ (boundsW l).2.1 ∧ (boundsW l).1.2 ≤ (boundsW (lineW l)).1.2 ∧ (boundsW (lineW l)).2.2 ≤ (boundsW l).2.2 := by
  have hl := line_hull l h0 ha _ _ _ _ (bounds_le l)
  have hp := lineW_pos l
  have h1 := hl _ (getD_mem (l := lineW l) (i := 0) (by omega))
  exact fold_in _ _ _ _ (lineW l) _ ⟨h1.1, h1.2.1, h1.2.2.1, h1.2.2.2⟩ hl
theorem flatBox (l : List (Int × Int)) (c : Bool) : PFun Try.prog 9 [Pa l c] (Bo true) := by
  refine PFun.intro 400 mixed Try.func9 (by kernel_rfl) rfl (by first | exact .v _ | (simp [Cl_v, Cl_t, Cl_g, Cl_fn, Cl_rp, Cl_ro]; done) | (simp [Cl_v, Cl_t, Cl_g, Cl_fn, Cl_rp, Cl_ro, or_imp, forall_and]; done) | (split <;> simp [Cl_v, Cl_t, Cl_g, Cl_fn, Cl_rp, Cl_ro])) (Nat.le_of_ble_eq_true rfl) ?_; rw [Try.ntmps9, Try.results9]
  simp (config := {maxSteps := 1000000, dsimp := false, implicitDefEqProofs := false}) only [go_sem, ↓reduceIte, Nat.reduceAdd, Nat.reduceSub, Nat.reduceMul, Nat.reduceLT, Nat.reduceLeDiff, Nat.reduceEqDiff, Nat.reduceBEq, Nat.reduceBNe, Int.reduceToNat, Int.reduceLT, Int.reduceLE, Int.reduceNeg, reduceCtorEq, Int.reduceEq, Int.reduceNe, Bool.false_eq_true, decide_true, decide_false, beq_self_eq_true, true_and, and_true, ne_eq, not_true, not_false_eq_true, List.elem_cons, List.elem_nil, List.contains_cons, List.contains_nil, List.getD_cons_zero, List.getD_cons_succ, Int.cast_ofNat_Int, Bool.or_true, Bool.true_or, Bool.or_false, Bool.false_or]
  refine AtFn.pure0 (few l c) ?_
  simp (config := {maxSteps := 1000000, dsimp := false, implicitDefEqProofs := false}) only [go_sem, ↓reduceIte, Nat.reduceAdd, Nat.reduceSub, Nat.reduceMul, Nat.reduceLT, Nat.reduceLeDiff, Nat.reduceEqDiff, Nat.reduceBEq, Nat.reduceBNe, Int.reduceToNat, Int.reduceLT, Int.reduceLE, Int.reduceNeg, reduceCtorEq, Int.reduceEq, Int.reduceNe, Bool.false_eq_true, decide_true, decide_false, beq_self_eq_true, true_and, and_true, ne_eq, not_true, not_false_eq_true, List.elem_cons, List.elem_nil, List.contains_cons, List.contains_nil, List.getD_cons_zero, List.getD_cons_succ, Int.cast_ofNat_Int, Bool.or_true, Bool.true_or, Bool.or_false, Bool.false_or]
  refine ⟨fun h => ?_, fun h => ?_⟩
  · have hn : l.length ≤ 60 := by simpa using h
    have hs : l.length < 2 ^ 20 := by omega
    have f1 := Box l c hs
    have f2 := Line l c hs
    have h2 := lineW_len l hs
    have h1 := lineW_pos l
    cases hv : validW l c
    · rw [hv] at f1 f2
      simp only [Bool.false_eq_true, if_false] at f1 f2
      refine AtFn.pure0 f1 ?_
      simp (config := {maxSteps := 1000000, dsimp := false, implicitDefEqProofs := false}) only [go_sem, ↓reduceIte, Nat.reduceAdd, Nat.reduceSub, Nat.reduceMul, Nat.reduceLT, Nat.reduceLeDiff, Nat.reduceEqDiff, Nat.reduceBEq, Nat.reduceBNe, Int.reduceToNat, Int.reduceLT, Int.reduceLE, Int.reduceNeg, reduceCtorEq, Int.reduceEq, Int.reduceNe, Bool.false_eq_true, decide_true, decide_false, beq_self_eq_true, true_and, and_true, ne_eq, not_true, not_false_eq_true, List.elem_cons, List.elem_nil, List.contains_cons, List.contains_nil, List.getD_cons_zero, List.getD_cons_succ, Int.cast_ofNat_Int, Bool.or_true, Bool.true_or, Bool.or_false, Bool.false_or]
      refine AtFn.pure0 f2 ?_
      simp (config := {maxSteps := 1000000, dsimp := false, implicitDefEqProofs := false}) only [go_sem, ↓reduceIte, Nat.reduceAdd, Nat.reduceSub, Nat.reduceMul, Nat.reduceLT, Nat.reduceLeDiff, Nat.reduceEqDiff, Nat.reduceBEq, Nat.reduceBNe, Int.reduceToNat, Int.reduceLT, Int.reduceLE, Int.reduceNeg, reduceCtorEq, Int.reduceEq, Int.reduceNe, Bool.false_eq_true, decide_true, decide_false, beq_self_eq_true, true_and, and_true, ne_eq, not_true, not_false_eq_true, List.elem_cons, List.elem_nil, List.contains_cons, List.contains_nil, List.getD_cons_zero, List.getD_cons_succ, Int.cast_ofNat_Int, Bool.or_true, Bool.true_or, Bool.or_false, Bool.false_or]
      refine AtFn.pure0 awake ?_
      simp (config := {maxSteps := 1000000, dsimp := false, implicitDefEqProofs := false}) only [go_sem, ↓reduceIte, Nat.reduceAdd, Nat.reduceSub, Nat.reduceMul, Nat.reduceLT, Nat.reduceLeDiff, Nat.reduceEqDiff, Nat.reduceBEq, Nat.reduceBNe, Int.reduceToNat, Int.reduceLT, Int.reduceLE, Int.reduceNeg, reduceCtorEq, Int.reduceEq, Int.reduceNe, Bool.false_eq_true, decide_true, decide_false, beq_self_eq_true, true_and, and_true, ne_eq, not_true, not_false_eq_true, List.elem_cons, List.elem_nil, List.contains_cons, List.contains_nil, List.getD_cons_zero, List.getD_cons_succ, Int.cast_ofNat_Int, Bool.or_true, Bool.true_or, Bool.or_false, Bool.false_or]
    · rw [hv] at f1 f2
      simp only [if_true] at f1 f2
      have hv' := (validW_iff l c (by omega)).1 hv
      have h0 : 1 ≤ l.length := by cases c <;> simp at hv' <;> omega
      have hb := box_in l h0 hv'.2.2.2
      have n1 : ¬ (boundsW (lineW l)).1.1 < (boundsW l).1.1 := by omega
      have n2 : ¬ (boundsW (lineW l)).1.2 < (boundsW l).1.2 := by omega
      have n3 : ¬ (boundsW (lineW l)).2.1 > (boundsW l).2.1 := by omega
      have n4 : ¬ (boundsW (lineW l)).2.2 > (boundsW l).2.2 := by omega
      have n5 : ¬ (boundsW l).2.1 < (boundsW (lineW l)).2.1 := by omega
      have n6 : ¬ (boundsW l).2.2 < (boundsW (lineW l)).2.2 := by omega
      refine AtFn.pure0 f1 ?_
      simp (config := {maxSteps := 1000000, dsimp := false, implicitDefEqProofs := false}) only [go_sem, ↓reduceIte, Nat.reduceAdd, Nat.reduceSub, Nat.reduceMul, Nat.reduceLT, Nat.reduceLeDiff, Nat.reduceEqDiff, Nat.reduceBEq, Nat.reduceBNe, Int.reduceToNat, Int.reduceLT, Int.reduceLE, Int.reduceNeg, reduceCtorEq, Int.reduceEq, Int.reduceNe, Bool.false_eq_true, decide_true, decide_false, beq_self_eq_true, true_and, and_true, ne_eq, not_true, not_false_eq_true, List.elem_cons, List.elem_nil, List.contains_cons, List.contains_nil, List.getD_cons_zero, List.getD_cons_succ, Int.cast_ofNat_Int, Bool.or_true, Bool.true_or, Bool.or_false, Bool.false_or]
      refine AtFn.pure0 f2 ?_
      simp (config := {maxSteps := 1000000, dsimp := false, implicitDefEqProofs := false}) only [go_sem, ↓reduceIte, Nat.reduceAdd, Nat.reduceSub, Nat.reduceMul, Nat.reduceLT, Nat.reduceLeDiff, Nat.reduceEqDiff, Nat.reduceBEq, Nat.reduceBNe, Int.reduceToNat, Int.reduceLT, Int.reduceLE, Int.reduceNeg, reduceCtorEq, Int.reduceEq, Int.reduceNe, Bool.false_eq_true, decide_true, decide_false, beq_self_eq_true, true_and, and_true, ne_eq, not_true, not_false_eq_true, List.elem_cons, List.elem_nil, List.contains_cons, List.contains_nil, List.getD_cons_zero, List.getD_cons_succ, Int.cast_ofNat_Int, Bool.or_true, Bool.true_or, Bool.or_false, Bool.false_or]
      refine AtFn.pure0 (rBounds l h0 (by omega)) ?_
      simp (config := {maxSteps := 1000000, dsimp := false, implicitDefEqProofs := false}) only [go_sem, ↓reduceIte, Nat.reduceAdd, Nat.reduceSub, Nat.reduceMul, Nat.reduceLT, Nat.reduceLeDiff, Nat.reduceEqDiff, Nat.reduceBEq, Nat.reduceBNe, Int.reduceToNat, Int.reduceLT, Int.reduceLE, Int.reduceNeg, reduceCtorEq, Int.reduceEq, Int.reduceNe, Bool.false_eq_true, decide_true, decide_false, beq_self_eq_true, true_and, and_true, ne_eq, not_true, not_false_eq_true, List.elem_cons, List.elem_nil, List.contains_cons, List.contains_nil, List.getD_cons_zero, List.getD_cons_succ, Int.cast_ofNat_Int, Bool.or_true, Bool.true_or, Bool.or_false, Bool.false_or, n1, n2, n3, n4, n5, n6]
      refine AtCode.draw 8 [([], []), ([], []), ([1], []), ([0, 1, 2], []), ([0, 1, 2, 3], []), ([0, 1, 2, 3, 4], []), ([0, 1, 2, 3, 4, 5], []), ([0, 1, 2, 3, 4, 5, 6], [])] (by kernel_rfl) ?_
      simp (config := {maxSteps := 1000000, dsimp := false, implicitDefEqProofs := false}) only [go_sem, ↓reduceIte, Nat.reduceAdd, Nat.reduceSub, Nat.reduceMul, Nat.reduceLT, Nat.reduceLeDiff, Nat.reduceEqDiff, Nat.reduceBEq, Nat.reduceBNe, Int.reduceToNat, Int.reduceLT, Int.reduceLE, Int.reduceNeg, reduceCtorEq, Int.reduceEq, Int.reduceNe, Bool.false_eq_true, decide_true, decide_false, beq_self_eq_true, true_and, and_true, ne_eq, not_true, not_false_eq_true, List.elem_cons, List.elem_nil, List.contains_cons, List.contains_nil, List.getD_cons_zero, List.getD_cons_succ, Int.cast_ofNat_Int, Bool.or_true, Bool.true_or, Bool.or_false, Bool.false_or]
      refine QFn.use _ (rBounds _ h1 (by omega)) (by simp (config := {maxSteps := 1000000, dsimp := false, implicitDefEqProofs := false}) only [go_sem, ↓reduceIte, Nat.reduceAdd, Nat.reduceSub, Nat.reduceMul, Nat.reduceLT, Nat.reduceLeDiff, Nat.reduceEqDiff, Nat.reduceBEq, Nat.reduceBNe, Int.reduceToNat, Int.reduceLT, Int.reduceLE, Int.reduceNeg, reduceCtorEq, Int.reduceEq, Int.reduceNe, Bool.false_eq_true, decide_true, decide_false, beq_self_eq_true, true_and, and_true, ne_eq, not_true, not_false_eq_true, List.elem_cons, List.elem_nil, List.contains_cons, List.contains_nil, List.getD_cons_zero, List.getD_cons_succ, Int.cast_ofNat_Int, Bool.or_true, Bool.true_or, Bool.or_false, Bool.false_or]) ?_
      simp (config := {maxSteps := 1000000, dsimp := false, implicitDefEqProofs := false}) only [go_sem, ↓reduceIte, Nat.reduceAdd, Nat.reduceSub, Nat.reduceMul, Nat.reduceLT, Nat.reduceLeDiff, Nat.reduceEqDiff, Nat.reduceBEq, Nat.reduceBNe, Int.reduceToNat, Int.reduceLT, Int.reduceLE, Int.reduceNeg, reduceCtorEq, Int.reduceEq, Int.reduceNe, Bool.false_eq_true, decide_true, decide_false, beq_self_eq_true, true_and, and_true, ne_eq, not_true, not_false_eq_true, List.elem_cons, List.elem_nil, List.contains_cons, List.contains_nil, List.getD_cons_zero, List.getD_cons_succ, Int.cast_ofNat_Int, Bool.or_true, Bool.true_or, Bool.or_false, Bool.false_or]
      refine QFn.use _ awake (by simp (config := {maxSteps := 1000000, dsimp := false, implicitDefEqProofs := false}) only [go_sem, ↓reduceIte, Nat.reduceAdd, Nat.reduceSub, Nat.reduceMul, Nat.reduceLT, Nat.reduceLeDiff, Nat.reduceEqDiff, Nat.reduceBEq, Nat.reduceBNe, Int.reduceToNat, Int.reduceLT, Int.reduceLE, Int.reduceNeg, reduceCtorEq, Int.reduceEq, Int.reduceNe, Bool.false_eq_true, decide_true, decide_false, beq_self_eq_true, true_and, and_true, ne_eq, not_true, not_false_eq_true, List.elem_cons, List.elem_nil, List.contains_cons, List.contains_nil, List.getD_cons_zero, List.getD_cons_succ, Int.cast_ofNat_Int, Bool.or_true, Bool.true_or, Bool.or_false, Bool.false_or]) ?_
      simp (config := {maxSteps := 1000000, dsimp := false, implicitDefEqProofs := false}) only [go_sem, ↓reduceIte, Nat.reduceAdd, Nat.reduceSub, Nat.reduceMul, Nat.reduceLT, Nat.reduceLeDiff, Nat.reduceEqDiff, Nat.reduceBEq, Nat.reduceBNe, Int.reduceToNat, Int.reduceLT, Int.reduceLE, Int.reduceNeg, reduceCtorEq, Int.reduceEq, Int.reduceNe, Bool.false_eq_true, decide_true, decide_false, beq_self_eq_true, true_and, and_true, ne_eq, not_true, not_false_eq_true, List.elem_cons, List.elem_nil, List.contains_cons, List.contains_nil, List.getD_cons_zero, List.getD_cons_succ, Int.cast_ofNat_Int, Bool.or_true, Bool.true_or, Bool.or_false, Bool.false_or]
  · refine AtFn.pure0 awake ?_
    simp (config := {maxSteps := 1000000, dsimp := false, implicitDefEqProofs := false}) only [go_sem, ↓reduceIte, Nat.reduceAdd, Nat.reduceSub, Nat.reduceMul, Nat.reduceLT, Nat.reduceLeDiff, Nat.reduceEqDiff, Nat.reduceBEq, Nat.reduceBNe, Int.reduceToNat, Int.reduceLT, Int.reduceLE, Int.reduceNeg, reduceCtorEq, Int.reduceEq, Int.reduceNe, Bool.false_eq_true, decide_true, decide_false, beq_self_eq_true, true_and, and_true, ne_eq, not_true, not_false_eq_true, List.elem_cons, List.elem_nil, List.contains_cons, List.contains_nil, List.getD_cons_zero, List.getD_cons_succ, Int.cast_ofNat_Int, Bool.or_true, Bool.true_or, Bool.or_false, Bool.false_or]

end

section
set_option maxRecDepth 20000
attribute [local go_sem] clPts eqk23'
theorem fineN_pt (p : Int × Int) : fineN p p p p = 0 := by
  have h : ∀ a : Int, secW a a a = 0 := by
    intro a
    simp only [secW, wr_add_l, wr_sub_r]
    rw [show a - 2 * a + a = 0 by omega, wr_in (by omega) (by omega)]
  have hw : wr (0 - 0) = 0 := wr_in (by omega) (by omega)
  simp only [fineN, bend2, bendsW, h, hw]
  rfl
theorem segW_pt (p : Int × Int) (h : inP p = true) : segW p p p p = [p, p] := by
  have hp := inP_iff p |>.1 h
  have e1 := at_first p.1 p.1 p.1 p.1 1 hp.1 hp.1 hp.1 hp.1 (by omega) (by omega)
  have e2 := at_first p.2 p.2 p.2 p.2 1 hp.2 hp.2 hp.2 hp.2 (by omega) (by omega)
  have e3 := at_last p.1 p.1 p.1 p.1 1 hp.1 hp.1 hp.1 hp.1 (by omega) (by omega)
  have e4 := at_last p.2 p.2 p.2 p.2 1 hp.2 hp.2 hp.2 hp.2 (by omega) (by omega)
  unfold segW
  rw [fineN_pt]
  show [ptW p p p p 0 1, ptW p p p p 1 1] = [p, p]
  simp only [ptW, e1, e2, e3, e4]
theorem line_pt (L : Nat) (p : Int × Int) (h0 : 1 ≤ L) (h : inP p = true) : lineW (List.replicate L p) = List.replicate (L / 3 + 1) p := by
  have hg : ∀ i, i < L → (List.replicate L p).getD i (0, 0) = p := by
    intro i hi
    simp [List.getD, hi]
  have hs : ∀ i, i < L / 3 → segs (List.replicate L p) i = (p, p, p, p) := by
    intro i hi
    unfold segs
    rw [List.length_replicate, hg _ (by omega), hg _ (by omega), hg _ (by omega), hg _ (Nat.mod_lt _ (by omega))]
  unfold lineW
  rw [hg 0 (by omega), List.replicate_succ]
  congr 1
  unfold segsL nSeg
  rw [List.length_replicate, List.flatMap_map]
  have : ∀ n, n ≤ L / 3 → (List.range n).flatMap (fun i => (segV (segs (List.replicate L p) i)).tail) = List.replicate n p := by
    intro n
    induction n with
    | zero => intro _; rfl
    | succ n ih =>
      intro hn
      rw [List.range_succ, List.flatMap_append, ih (by omega), List.replicate_succ']
      congr 1
      simp [hs n (by omega), segV, segW_pt p h]
  exact this _ (Nat.le_refl _)
theorem cnt (n : Int) : ∃ N : Nat, wr ((IntKind.u64.wrap n).tmod 205) = (N : Int) ∧ N ≤ 204 ∧ wr (3 * (N : Int)) = ((3 * N : Nat) : Int) ∧ wr ((N : Int) + 1) = ((N + 1 : Nat) : Int) := by
  have h : IntKind.u64.wrap n = n % 18446744073709551616 := by simp [IntKind.wrap, IntKind.bits, IntKind.signed]
  have h0 : 0 ≤ IntKind.u64.wrap n := by rw [h]; omega
  have h1 : (IntKind.u64.wrap n).tmod 205 = IntKind.u64.wrap n % 205 := Int.tmod_eq_emod_of_nonneg h0
  refine ⟨(IntKind.u64.wrap n % 205).toNat, ?_, by omega, ?_, ?_⟩
  · rw [h1, wr_in (by omega) (by omega)]; omega
  · rw [wr_in (by omega) (by omega)]; omega
  · rw [wr_in (by omega) (by omega)]; omega
def rep (i : Nat) (p : Int × Int) : List (Int × Int) := List.replicate i p
theorem rep_len (i : Nat) (p : Int × Int) : (rep i p).length = i := by simp [rep]
theorem pc_rep (i : Nat) (p : Int × Int) : pc (rep i p) ++ [[I p.1, I p.2]] = pc (rep (i + 1) p) := by
  rw [pc_snoc]; unfold rep; rw [List.replicate_succ']
theorem pcr_take (i : Nat) (p : Int × Int) : takeA 0 i (pc (rep i p)) = pc (rep i p) := takeA_self (by simp [rep_len])
theorem rep_get (i j : Nat) (p : Int × Int) (h : j < i) : (rep i p)[j]? = some p := by simp [rep, h]
theorem clPa (l : List (Int × Int)) (c : Bool) : Cl (Pa l c) := .g (by simp only [List.mem_cons, List.not_mem_nil, or_false, forall_eq_or_imp, forall_eq]; exact ⟨clPts' _, .v _⟩)
theorem flatLimits (p : Int × Int) (n : Int) (c : Bool) : PFun Try.prog 4 [Pt p, I n, Bo c] (Bo true) := by
  refine PFun.intro 400 mixed Try.func4 (by kernel_rfl) rfl (by first | exact .v _ | (simp [Cl_v, Cl_t, Cl_g, Cl_fn, Cl_rp, Cl_ro]; done) | (simp [Cl_v, Cl_t, Cl_g, Cl_fn, Cl_rp, Cl_ro, or_imp, forall_and]; done) | (split <;> simp [Cl_v, Cl_t, Cl_g, Cl_fn, Cl_rp, Cl_ro])) (Nat.le_of_ble_eq_true rfl) ?_; rw [Try.ntmps4, Try.results4]
  obtain ⟨N, hN, hN2, hN3, hN4⟩ := cnt n
  simp (config := {maxSteps := 1000000, dsimp := false, implicitDefEqProofs := false}) only [go_sem, ↓reduceIte, Nat.reduceAdd, Nat.reduceSub, Nat.reduceMul, Nat.reduceLT, Nat.reduceLeDiff, Nat.reduceEqDiff, Nat.reduceBEq, Nat.reduceBNe, Int.reduceToNat, Int.reduceLT, Int.reduceLE, Int.reduceNeg, reduceCtorEq, Int.reduceEq, Int.reduceNe, Bool.false_eq_true, decide_true, decide_false, beq_self_eq_true, true_and, and_true, ne_eq, not_true, not_false_eq_true, List.elem_cons, List.elem_nil, List.contains_cons, List.contains_nil, List.getD_cons_zero, List.getD_cons_succ, Int.cast_ofNat_Int, Bool.or_true, Bool.true_or, Bool.or_false, Bool.false_or, hN, hN3]
  refine ⟨{i : Nat // i ≤ 3 * N}, fun i => ⟨82, tl [(1, I N), (2, Bo c), (3, .ptr 0 0 0), (7, .ptr 1 0 0), (17, I (3 * N : Nat)), (18, I i.1)], [(0, ⟨2, [[I p.1, I p.2]]⟩), (1, ⟨2, [[.sl 2 0 i.1, Bo c]]⟩), (2, ⟨2, pc (rep i.1 p)⟩)], 3, .nil⟩, fun i => 3 * N - i.1,
    ⟨⟨0, by omega⟩, Le.tl0 (Ls := []) (y := none) [] ?_ ?_ (by simp) (by simp [sg]) trivial⟩, fun i => ?_⟩
  · simp (config := {maxSteps := 1000000, dsimp := false, implicitDefEqProofs := false}) only [go_sem, ↓reduceIte, Nat.reduceAdd, Nat.reduceSub, Nat.reduceMul, Nat.reduceLT, Nat.reduceLeDiff, Nat.reduceEqDiff, Nat.reduceBEq, Nat.reduceBNe, Int.reduceToNat, Int.reduceLT, Int.reduceLE, Int.reduceNeg, reduceCtorEq, Int.reduceEq, Int.reduceNe, Bool.false_eq_true, decide_true, decide_false, beq_self_eq_true, true_and, and_true, ne_eq, not_true, not_false_eq_true, List.elem_cons, List.elem_nil, List.contains_cons, List.contains_nil, List.getD_cons_zero, List.getD_cons_succ, Int.cast_ofNat_Int, Bool.or_true, Bool.true_or, Bool.or_false, Bool.false_or]
  · simp (config := {maxSteps := 1000000, dsimp := false, implicitDefEqProofs := false}) only [go_sem, ↓reduceIte, Nat.reduceAdd, Nat.reduceSub, Nat.reduceMul, Nat.reduceLT, Nat.reduceLeDiff, Nat.reduceEqDiff, Nat.reduceBEq, Nat.reduceBNe, Int.reduceToNat, Int.reduceLT, Int.reduceLE, Int.reduceNeg, reduceCtorEq, Int.reduceEq, Int.reduceNe, Bool.false_eq_true, decide_true, decide_false, beq_self_eq_true, true_and, and_true, ne_eq, not_true, not_false_eq_true, List.elem_cons, List.elem_nil, List.contains_cons, List.contains_nil, List.getD_cons_zero, List.getD_cons_succ, Int.cast_ofNat_Int, Bool.or_true, Bool.true_or, Bool.or_false, Bool.false_or]
    exact ⟨renL_cl rfl (by simp (config := {maxSteps := 1000000, dsimp := false, implicitDefEqProofs := false}) only [go_sem, ↓reduceIte, Nat.reduceAdd, Nat.reduceSub, Nat.reduceMul, Nat.reduceLT, Nat.reduceLeDiff, Nat.reduceEqDiff, Nat.reduceBEq, Nat.reduceBNe, Int.reduceToNat, Int.reduceLT, Int.reduceLE, Int.reduceNeg, reduceCtorEq, Int.reduceEq, Int.reduceNe, Bool.false_eq_true, decide_true, decide_false, beq_self_eq_true, true_and, and_true, ne_eq, not_true, not_false_eq_true, List.elem_cons, List.elem_nil, List.contains_cons, List.contains_nil, List.getD_cons_zero, List.getD_cons_succ, Int.cast_ofNat_Int, Bool.or_true, Bool.true_or, Bool.or_false, Bool.false_or]), renL_two .nil (by simp (config := {maxSteps := 1000000, dsimp := false, implicitDefEqProofs := false}) only [go_sem, ↓reduceIte, Nat.reduceAdd, Nat.reduceSub, Nat.reduceMul, Nat.reduceLT, Nat.reduceLeDiff, Nat.reduceEqDiff, Nat.reduceBEq, Nat.reduceBNe, Int.reduceToNat, Int.reduceLT, Int.reduceLE, Int.reduceNeg, reduceCtorEq, Int.reduceEq, Int.reduceNe, Bool.false_eq_true, decide_true, decide_false, beq_self_eq_true, true_and, and_true, ne_eq, not_true, not_false_eq_true, List.elem_cons, List.elem_nil, List.contains_cons, List.contains_nil, List.getD_cons_zero, List.getD_cons_succ, Int.cast_ofNat_Int, Bool.or_true, Bool.true_or, Bool.or_false, Bool.false_or]), by simp [rep]⟩
  · obtain ⟨i, hi⟩ := i
    simp (config := {maxSteps := 1000000, dsimp := false, implicitDefEqProofs := false}) only [go_sem, ↓reduceIte, Nat.reduceAdd, Nat.reduceSub, Nat.reduceMul, Nat.reduceLT, Nat.reduceLeDiff, Nat.reduceEqDiff, Nat.reduceBEq, Nat.reduceBNe, Int.reduceToNat, Int.reduceLT, Int.reduceLE, Int.reduceNeg, reduceCtorEq, Int.reduceEq, Int.reduceNe, Bool.false_eq_true, decide_true, decide_false, beq_self_eq_true, true_and, and_true, ne_eq, not_true, not_false_eq_true, List.elem_cons, List.elem_nil, List.contains_cons, List.contains_nil, List.getD_cons_zero, List.getD_cons_succ, Int.cast_ofNat_Int, Bool.or_true, Bool.true_or, Bool.or_false, Bool.false_or]
    refine ⟨fun h => ?_, fun h => ?_⟩
    · have e1 : wr ((i : Int) + 1) = ((i + 1 : Nat) : Int) := by rw [wr_in] <;> omega
      simp (config := {maxSteps := 1000000, dsimp := false, implicitDefEqProofs := false}) only [go_sem, ↓reduceIte, Nat.reduceAdd, Nat.reduceSub, Nat.reduceMul, Nat.reduceLT, Nat.reduceLeDiff, Nat.reduceEqDiff, Nat.reduceBEq, Nat.reduceBNe, Int.reduceToNat, Int.reduceLT, Int.reduceLE, Int.reduceNeg, reduceCtorEq, Int.reduceEq, Int.reduceNe, Bool.false_eq_true, decide_true, decide_false, beq_self_eq_true, true_and, and_true, ne_eq, not_true, not_false_eq_true, List.elem_cons, List.elem_nil, List.contains_cons, List.contains_nil, List.getD_cons_zero, List.getD_cons_succ, Int.cast_ofNat_Int, Bool.or_true, Bool.true_or, Bool.or_false, Bool.false_or, List.getElem?_map, Int.natCast_nonneg, Int.toNat_natCast, List.length_map, e1, pcr_take, pc_rep, rep_len]
      refine ⟨by omega, by omega, ⟨i + 1, by omega⟩, by show 3 * N - (i + 1) < 3 * N - i; omega, Le.tl (Ls := []) (y := none) [(2, 4)] ?_ ?_ (by simp) (by simp [sg]) trivial⟩
      · simp (config := {maxSteps := 1000000, dsimp := false, implicitDefEqProofs := false}) only [go_sem, ↓reduceIte, Nat.reduceAdd, Nat.reduceSub, Nat.reduceMul, Nat.reduceLT, Nat.reduceLeDiff, Nat.reduceEqDiff, Nat.reduceBEq, Nat.reduceBNe, Int.reduceToNat, Int.reduceLT, Int.reduceLE, Int.reduceNeg, reduceCtorEq, Int.reduceEq, Int.reduceNe, Bool.false_eq_true, decide_true, decide_false, beq_self_eq_true, true_and, and_true, ne_eq, not_true, not_false_eq_true, List.elem_cons, List.elem_nil, List.contains_cons, List.contains_nil, List.getD_cons_zero, List.getD_cons_succ, Int.cast_ofNat_Int, Bool.or_true, Bool.true_or, Bool.or_false, Bool.false_or]
      · simp (config := {maxSteps := 1000000, dsimp := false, implicitDefEqProofs := false}) only [go_sem, ↓reduceIte, Nat.reduceAdd, Nat.reduceSub, Nat.reduceMul, Nat.reduceLT, Nat.reduceLeDiff, Nat.reduceEqDiff, Nat.reduceBEq, Nat.reduceBNe, Int.reduceToNat, Int.reduceLT, Int.reduceLE, Int.reduceNeg, reduceCtorEq, Int.reduceEq, Int.reduceNe, Bool.false_eq_true, decide_true, decide_false, beq_self_eq_true, true_and, and_true, ne_eq, not_true, not_false_eq_true, List.elem_cons, List.elem_nil, List.contains_cons, List.contains_nil, List.getD_cons_zero, List.getD_cons_succ, Int.cast_ofNat_Int, Bool.or_true, Bool.true_or, Bool.or_false, Bool.false_or]
        exact ⟨renL_cl rfl (by simp (config := {maxSteps := 1000000, dsimp := false, implicitDefEqProofs := false}) only [go_sem, ↓reduceIte, Nat.reduceAdd, Nat.reduceSub, Nat.reduceMul, Nat.reduceLT, Nat.reduceLeDiff, Nat.reduceEqDiff, Nat.reduceBEq, Nat.reduceBNe, Int.reduceToNat, Int.reduceLT, Int.reduceLE, Int.reduceNeg, reduceCtorEq, Int.reduceEq, Int.reduceNe, Bool.false_eq_true, decide_true, decide_false, beq_self_eq_true, true_and, and_true, ne_eq, not_true, not_false_eq_true, List.elem_cons, List.elem_nil, List.contains_cons, List.contains_nil, List.getD_cons_zero, List.getD_cons_succ, Int.cast_ofNat_Int, Bool.or_true, Bool.true_or, Bool.or_false, Bool.false_or]), renL_two (by simp (config := {maxSteps := 1000000, dsimp := false, implicitDefEqProofs := false}) only [go_sem, ↓reduceIte, Nat.reduceAdd, Nat.reduceSub, Nat.reduceMul, Nat.reduceLT, Nat.reduceLeDiff, Nat.reduceEqDiff, Nat.reduceBEq, Nat.reduceBNe, Int.reduceToNat, Int.reduceLT, Int.reduceLE, Int.reduceNeg, reduceCtorEq, Int.reduceEq, Int.reduceNe, Bool.false_eq_true, decide_true, decide_false, beq_self_eq_true, true_and, and_true, ne_eq, not_true, not_false_eq_true, List.elem_cons, List.elem_nil, List.contains_cons, List.contains_nil, List.getD_cons_zero, List.getD_cons_succ, Int.cast_ofNat_Int, Bool.or_true, Bool.true_or, Bool.or_false, Bool.false_or]) (by simp (config := {maxSteps := 1000000, dsimp := false, implicitDefEqProofs := false}) only [go_sem, ↓reduceIte, Nat.reduceAdd, Nat.reduceSub, Nat.reduceMul, Nat.reduceLT, Nat.reduceLeDiff, Nat.reduceEqDiff, Nat.reduceBEq, Nat.reduceBNe, Int.reduceToNat, Int.reduceLT, Int.reduceLE, Int.reduceNeg, reduceCtorEq, Int.reduceEq, Int.reduceNe, Bool.false_eq_true, decide_true, decide_false, beq_self_eq_true, true_and, and_true, ne_eq, not_true, not_false_eq_true, List.elem_cons, List.elem_nil, List.contains_cons, List.contains_nil, List.getD_cons_zero, List.getD_cons_succ, Int.cast_ofNat_Int, Bool.or_true, Bool.true_or, Bool.or_false, Bool.false_or]), renL_cl rfl (clPc _)⟩
    · have hi' : i = 3 * N := by omega
      subst hi'
      cases c
      · simp (config := {maxSteps := 1000000, dsimp := false, implicitDefEqProofs := false}) only [go_sem, ↓reduceIte, Nat.reduceAdd, Nat.reduceSub, Nat.reduceMul, Nat.reduceLT, Nat.reduceLeDiff, Nat.reduceEqDiff, Nat.reduceBEq, Nat.reduceBNe, Int.reduceToNat, Int.reduceLT, Int.reduceLE, Int.reduceNeg, reduceCtorEq, Int.reduceEq, Int.reduceNe, Bool.false_eq_true, decide_true, decide_false, beq_self_eq_true, true_and, and_true, ne_eq, not_true, not_false_eq_true, List.elem_cons, List.elem_nil, List.contains_cons, List.contains_nil, List.getD_cons_zero, List.getD_cons_succ, Int.cast_ofNat_Int, Bool.or_true, Bool.true_or, Bool.or_false, Bool.false_or, List.getElem?_map, Int.natCast_nonneg, Int.toNat_natCast, List.length_map, pcr_take, pc_rep, rep_len]
        refine ⟨by omega, by omega, ?_⟩
        refine AtFn.le ⟨82, tl [(1, I N), (3, .ptr 0 0 0), (7, .ptr 1 0 0), (36, Pa (rep (3 * N + 1) p) false)], [(1, ⟨2, [[Pts (rep (3 * N + 1) p), Bo false]]⟩), (0, ⟨2, [[I p.1, I p.2]]⟩)], 2, .nil⟩ [Pa (rep (3 * N + 1) p) false] (Le.ftl (Ls := []) (y := none) [4] [] ?_ ?_ (by simp) (by simp [sg]) trivial)
          (by intro fo xs ts h; cases h; exact ⟨by simp (config := {maxSteps := 1000000, dsimp := false, implicitDefEqProofs := false}) only [go_sem, ↓reduceIte, Nat.reduceAdd, Nat.reduceSub, Nat.reduceMul, Nat.reduceLT, Nat.reduceLeDiff, Nat.reduceEqDiff, Nat.reduceBEq, Nat.reduceBNe, Int.reduceToNat, Int.reduceLT, Int.reduceLE, Int.reduceNeg, reduceCtorEq, Int.reduceEq, Int.reduceNe, Bool.false_eq_true, decide_true, decide_false, beq_self_eq_true, true_and, and_true, ne_eq, not_true, not_false_eq_true, List.elem_cons, List.elem_nil, List.contains_cons, List.contains_nil, List.getD_cons_zero, List.getD_cons_succ, Int.cast_ofNat_Int, Bool.or_true, Bool.true_or, Bool.or_false, Bool.false_or], by simp (config := {maxSteps := 1000000, dsimp := false, implicitDefEqProofs := false}) only [go_sem, ↓reduceIte, Nat.reduceAdd, Nat.reduceSub, Nat.reduceMul, Nat.reduceLT, Nat.reduceLeDiff, Nat.reduceEqDiff, Nat.reduceBEq, Nat.reduceBNe, Int.reduceToNat, Int.reduceLT, Int.reduceLE, Int.reduceNeg, reduceCtorEq, Int.reduceEq, Int.reduceNe, Bool.false_eq_true, decide_true, decide_false, beq_self_eq_true, true_and, and_true, ne_eq, not_true, not_false_eq_true, List.elem_cons, List.elem_nil, List.contains_cons, List.contains_nil, List.getD_cons_zero, List.getD_cons_succ, Int.cast_ofNat_Int, Bool.or_true, Bool.true_or, Bool.or_false, Bool.false_or]⟩) ?_
        · simp (config := {maxSteps := 1000000, dsimp := false, implicitDefEqProofs := false}) only [go_sem, ↓reduceIte, Nat.reduceAdd, Nat.reduceSub, Nat.reduceMul, Nat.reduceLT, Nat.reduceLeDiff, Nat.reduceEqDiff, Nat.reduceBEq, Nat.reduceBNe, Int.reduceToNat, Int.reduceLT, Int.reduceLE, Int.reduceNeg, reduceCtorEq, Int.reduceEq, Int.reduceNe, Bool.false_eq_true, decide_true, decide_false, beq_self_eq_true, true_and, and_true, ne_eq, not_true, not_false_eq_true, List.elem_cons, List.elem_nil, List.contains_cons, List.contains_nil, List.getD_cons_zero, List.getD_cons_succ, Int.cast_ofNat_Int, Bool.or_true, Bool.true_or, Bool.or_false, Bool.false_or, fz, pcr_take, List.length_map, rep_len, Nat.zero_add, Nat.le_refl]
          exact .cl (clPa _ _)
        · simp (config := {maxSteps := 1000000, dsimp := false, implicitDefEqProofs := false}) only [go_sem, ↓reduceIte, Nat.reduceAdd, Nat.reduceSub, Nat.reduceMul, Nat.reduceLT, Nat.reduceLeDiff, Nat.reduceEqDiff, Nat.reduceBEq, Nat.reduceBNe, Int.reduceToNat, Int.reduceLT, Int.reduceLE, Int.reduceNeg, reduceCtorEq, Int.reduceEq, Int.reduceNe, Bool.false_eq_true, decide_true, decide_false, beq_self_eq_true, true_and, and_true, ne_eq, not_true, not_false_eq_true, List.elem_cons, List.elem_nil, List.contains_cons, List.contains_nil, List.getD_cons_zero, List.getD_cons_succ, Int.cast_ofNat_Int, Bool.or_true, Bool.true_or, Bool.or_false, Bool.false_or, fz, fzB, pcr_take, List.length_map, rep_len, Nat.zero_add, Nat.le_refl]
          exact ⟨renL_cl rfl (by simp only [List.mem_cons, List.not_mem_nil, or_false, forall_eq_or_imp, forall_eq]; exact ⟨clPts' _, .v _⟩), renL_cl rfl (by simp (config := {maxSteps := 1000000, dsimp := false, implicitDefEqProofs := false}) only [go_sem, ↓reduceIte, Nat.reduceAdd, Nat.reduceSub, Nat.reduceMul, Nat.reduceLT, Nat.reduceLeDiff, Nat.reduceEqDiff, Nat.reduceBEq, Nat.reduceBNe, Int.reduceToNat, Int.reduceLT, Int.reduceLE, Int.reduceNeg, reduceCtorEq, Int.reduceEq, Int.reduceNe, Bool.false_eq_true, decide_true, decide_false, beq_self_eq_true, true_and, and_true, ne_eq, not_true, not_false_eq_true, List.elem_cons, List.elem_nil, List.contains_cons, List.contains_nil, List.getD_cons_zero, List.getD_cons_succ, Int.cast_ofNat_Int, Bool.or_true, Bool.true_or, Bool.or_false, Bool.false_or])⟩
        · have hs : (rep (3 * N + 1) p).length < 2 ^ 20 := by rw [rep_len]; omega
          have f1 := Line (rep (3 * N + 1) p) false hs
          have f2 := rValid (rep (3 * N + 1) p) false (by omega)
          have f3 := Valid (rep (3 * N + 1) p) false (by omega)
          cases hv : validW (rep (3 * N + 1) p) false
          · rw [hv] at f1 f2 f3
            simp only [Bool.false_eq_true, if_false] at f1
            refine AtFn.pure0 f1 ?_
            simp (config := {maxSteps := 1000000, dsimp := false, implicitDefEqProofs := false}) only [go_sem, ↓reduceIte, Nat.reduceAdd, Nat.reduceSub, Nat.reduceMul, Nat.reduceLT, Nat.reduceLeDiff, Nat.reduceEqDiff, Nat.reduceBEq, Nat.reduceBNe, Int.reduceToNat, Int.reduceLT, Int.reduceLE, Int.reduceNeg, reduceCtorEq, Int.reduceEq, Int.reduceNe, Bool.false_eq_true, decide_true, decide_false, beq_self_eq_true, true_and, and_true, ne_eq, not_true, not_false_eq_true, List.elem_cons, List.elem_nil, List.contains_cons, List.contains_nil, List.getD_cons_zero, List.getD_cons_succ, Int.cast_ofNat_Int, Bool.or_true, Bool.true_or, Bool.or_false, Bool.false_or]
            refine AtFn.pure0 f2 ?_
            simp (config := {maxSteps := 1000000, dsimp := false, implicitDefEqProofs := false}) only [go_sem, ↓reduceIte, Nat.reduceAdd, Nat.reduceSub, Nat.reduceMul, Nat.reduceLT, Nat.reduceLeDiff, Nat.reduceEqDiff, Nat.reduceBEq, Nat.reduceBNe, Int.reduceToNat, Int.reduceLT, Int.reduceLE, Int.reduceNeg, reduceCtorEq, Int.reduceEq, Int.reduceNe, Bool.false_eq_true, decide_true, decide_false, beq_self_eq_true, true_and, and_true, ne_eq, not_true, not_false_eq_true, List.elem_cons, List.elem_nil, List.contains_cons, List.contains_nil, List.getD_cons_zero, List.getD_cons_succ, Int.cast_ofNat_Int, Bool.or_true, Bool.true_or, Bool.or_false, Bool.false_or]
            refine AtFn.pure0 f3 ?_
            simp (config := {maxSteps := 1000000, dsimp := false, implicitDefEqProofs := false}) only [go_sem, ↓reduceIte, Nat.reduceAdd, Nat.reduceSub, Nat.reduceMul, Nat.reduceLT, Nat.reduceLeDiff, Nat.reduceEqDiff, Nat.reduceBEq, Nat.reduceBNe, Int.reduceToNat, Int.reduceLT, Int.reduceLE, Int.reduceNeg, reduceCtorEq, Int.reduceEq, Int.reduceNe, Bool.false_eq_true, decide_true, decide_false, beq_self_eq_true, true_and, and_true, ne_eq, not_true, not_false_eq_true, List.elem_cons, List.elem_nil, List.contains_cons, List.contains_nil, List.getD_cons_zero, List.getD_cons_succ, Int.cast_ofNat_Int, Bool.or_true, Bool.true_or, Bool.or_false, Bool.false_or]
            refine AtFn.pure0 awake ?_
            simp (config := {maxSteps := 1000000, dsimp := false, implicitDefEqProofs := false}) only [go_sem, ↓reduceIte, Nat.reduceAdd, Nat.reduceSub, Nat.reduceMul, Nat.reduceLT, Nat.reduceLeDiff, Nat.reduceEqDiff, Nat.reduceBEq, Nat.reduceBNe, Int.reduceToNat, Int.reduceLT, Int.reduceLE, Int.reduceNeg, reduceCtorEq, Int.reduceEq, Int.reduceNe, Bool.false_eq_true, decide_true, decide_false, beq_self_eq_true, true_and, and_true, ne_eq, not_true, not_false_eq_true, List.elem_cons, List.elem_nil, List.contains_cons, List.contains_nil, List.getD_cons_zero, List.getD_cons_succ, Int.cast_ofNat_Int, Bool.or_true, Bool.true_or, Bool.or_false, Bool.false_or]
          · rw [hv] at f1 f2 f3
            simp only [if_true] at f1
            have hv' := (validW_iff _ _ (by omega)).1 hv
            rw [rep_len] at hv'
            have h1 : 1 ≤ (3 * N + 1) := by
              obtain ⟨a1, a2, a3⟩ := hv'
              simp at a1 a2
              omega
            have hp : inP p = true := by
              have := hv'.2.2.2
              rw [List.all_eq_true] at this
              exact this p (List.mem_of_getElem? (rep_get (3 * N + 1) 0 p (by omega)))
            have hl : lineW (rep (3 * N + 1) p) = rep (N + 1) p := by
              show lineW (List.replicate (3 * N + 1) p) = _
              rw [line_pt (3 * N + 1) p h1 hp, show (3 * N + 1) / 3 = N by omega]; rfl
            rw [hl] at f1
            refine AtFn.pure0 f1 ?_
            simp (config := {maxSteps := 1000000, dsimp := false, implicitDefEqProofs := false}) only [go_sem, ↓reduceIte, Nat.reduceAdd, Nat.reduceSub, Nat.reduceMul, Nat.reduceLT, Nat.reduceLeDiff, Nat.reduceEqDiff, Nat.reduceBEq, Nat.reduceBNe, Int.reduceToNat, Int.reduceLT, Int.reduceLE, Int.reduceNeg, reduceCtorEq, Int.reduceEq, Int.reduceNe, Bool.false_eq_true, decide_true, decide_false, beq_self_eq_true, true_and, and_true, ne_eq, not_true, not_false_eq_true, List.elem_cons, List.elem_nil, List.contains_cons, List.contains_nil, List.getD_cons_zero, List.getD_cons_succ, Int.cast_ofNat_Int, Bool.or_true, Bool.true_or, Bool.or_false, Bool.false_or]
            refine AtFn.pure0 f2 ?_
            simp (config := {maxSteps := 1000000, dsimp := false, implicitDefEqProofs := false}) only [go_sem, ↓reduceIte, Nat.reduceAdd, Nat.reduceSub, Nat.reduceMul, Nat.reduceLT, Nat.reduceLeDiff, Nat.reduceEqDiff, Nat.reduceBEq, Nat.reduceBNe, Int.reduceToNat, Int.reduceLT, Int.reduceLE, Int.reduceNeg, reduceCtorEq, Int.reduceEq, Int.reduceNe, Bool.false_eq_true, decide_true, decide_false, beq_self_eq_true, true_and, and_true, ne_eq, not_true, not_false_eq_true, List.elem_cons, List.elem_nil, List.contains_cons, List.contains_nil, List.getD_cons_zero, List.getD_cons_succ, Int.cast_ofNat_Int, Bool.or_true, Bool.true_or, Bool.or_false, Bool.false_or]
            refine AtCode.draw 25 [([], []), ([0], []), ([0, 1], []), ([0, 1, 2], []), ([0, 1, 2, 3], []), ([0, 1, 2, 3, 4], []), ([0, 1, 2, 3, 4, 5], []), ([0, 1, 2, 3, 4, 5, 6], []), ([0, 1, 2, 3, 4, 5, 6, 7], []), ([0, 1, 2, 3, 4, 5, 6], []), ([0, 1, 2, 3, 4, 5, 6, 9], []), ([0, 1, 2, 3, 4, 5, 6, 7, 8, 9, 10], []), ([0, 1, 2, 3, 4, 5, 6, 7, 8, 9, 10, 11], []), ([0, 1, 2, 3, 4, 5, 6, 7, 8, 9, 10, 11, 12], []), ([0, 1, 2, 3, 4, 5, 6, 7, 8, 9, 10, 11, 12, 13], []), ([0, 1, 2, 3, 4, 5, 6, 7, 8, 9, 10, 11, 12, 13], []), ([0, 1, 2, 3, 4, 5, 6, 7, 8, 9, 10, 11, 12, 13, 14, 15], []), ([0, 1, 2, 3, 4, 5, 6, 7, 8, 9, 10, 11, 12, 13, 14, 15, 16], []), ([0, 1, 2, 3, 4, 5, 6, 7, 8, 9, 10, 11, 12, 13], []), ([0, 1, 2, 3, 4, 5, 6, 7, 8, 9, 10, 11, 12, 13, 14, 15, 16, 17, 18], []), ([0, 1, 2, 3, 4, 5, 6, 7, 8, 9, 10, 11, 12, 13, 14, 15, 16, 17, 18, 19], []), ([0, 1, 2, 3, 4, 5, 6, 7, 8, 9, 10, 11, 12, 13, 14, 15, 16, 17, 18, 19, 20], []), ([0, 1, 2, 3, 4, 5, 6, 7, 8, 9, 10, 11, 12, 13, 14, 15, 16, 17, 18, 19, 20, 21], []), ([0, 1, 2, 3, 4, 5, 6, 7, 8, 9, 10, 11, 12, 13, 14, 15, 16, 17, 18, 19, 20, 21, 22], []), ([0, 1, 2, 3, 4, 5, 6, 7, 8, 9, 10, 11, 12, 13, 14, 15, 16, 17, 18, 19, 20, 21, 22, 23], [])] (by kernel_rfl) ?_
            simp (config := {maxSteps := 1000000, dsimp := false, implicitDefEqProofs := false}) only [go_sem, ↓reduceIte, Nat.reduceAdd, Nat.reduceSub, Nat.reduceMul, Nat.reduceLT, Nat.reduceLeDiff, Nat.reduceEqDiff, Nat.reduceBEq, Nat.reduceBNe, Int.reduceToNat, Int.reduceLT, Int.reduceLE, Int.reduceNeg, reduceCtorEq, Int.reduceEq, Int.reduceNe, Bool.false_eq_true, decide_true, decide_false, beq_self_eq_true, true_and, and_true, ne_eq, not_true, not_false_eq_true, List.elem_cons, List.elem_nil, List.contains_cons, List.contains_nil, List.getD_cons_zero, List.getD_cons_succ, Int.cast_ofNat_Int, Bool.or_true, Bool.true_or, Bool.or_false, Bool.false_or]
            refine QFn.use _ f3 (by simp (config := {maxSteps := 1000000, dsimp := false, implicitDefEqProofs := false}) only [go_sem, ↓reduceIte, Nat.reduceAdd, Nat.reduceSub, Nat.reduceMul, Nat.reduceLT, Nat.reduceLeDiff, Nat.reduceEqDiff, Nat.reduceBEq, Nat.reduceBNe, Int.reduceToNat, Int.reduceLT, Int.reduceLE, Int.reduceNeg, reduceCtorEq, Int.reduceEq, Int.reduceNe, Bool.false_eq_true, decide_true, decide_false, beq_self_eq_true, true_and, and_true, ne_eq, not_true, not_false_eq_true, List.elem_cons, List.elem_nil, List.contains_cons, List.contains_nil, List.getD_cons_zero, List.getD_cons_succ, Int.cast_ofNat_Int, Bool.or_true, Bool.true_or, Bool.or_false, Bool.false_or]) ?_
            simp (config := {maxSteps := 1000000, dsimp := false, implicitDefEqProofs := false}) only [go_sem, ↓reduceIte, Nat.reduceAdd, Nat.reduceSub, Nat.reduceMul, Nat.reduceLT, Nat.reduceLeDiff, Nat.reduceEqDiff, Nat.reduceBEq, Nat.reduceBNe, Int.reduceToNat, Int.reduceLT, Int.reduceLE, Int.reduceNeg, reduceCtorEq, Int.reduceEq, Int.reduceNe, Bool.false_eq_true, decide_true, decide_false, beq_self_eq_true, true_and, and_true, ne_eq, not_true, not_false_eq_true, List.elem_cons, List.elem_nil, List.contains_cons, List.contains_nil, List.getD_cons_zero, List.getD_cons_succ, Int.cast_ofNat_Int, Bool.or_true, Bool.true_or, Bool.or_false, Bool.false_or, rep_len, List.length_map, hN4, List.getElem?_map, rep_get (N + 1) N p (by omega), Int.natCast_nonneg, Int.toNat_natCast]
            refine QFn.use _ awake (by simp (config := {maxSteps := 1000000, dsimp := false, implicitDefEqProofs := false}) only [go_sem, ↓reduceIte, Nat.reduceAdd, Nat.reduceSub, Nat.reduceMul, Nat.reduceLT, Nat.reduceLeDiff, Nat.reduceEqDiff, Nat.reduceBEq, Nat.reduceBNe, Int.reduceToNat, Int.reduceLT, Int.reduceLE, Int.reduceNeg, reduceCtorEq, Int.reduceEq, Int.reduceNe, Bool.false_eq_true, decide_true, decide_false, beq_self_eq_true, true_and, and_true, ne_eq, not_true, not_false_eq_true, List.elem_cons, List.elem_nil, List.contains_cons, List.contains_nil, List.getD_cons_zero, List.getD_cons_succ, Int.cast_ofNat_Int, Bool.or_true, Bool.true_or, Bool.or_false, Bool.false_or]) ?_
            simp (config := {maxSteps := 1000000, dsimp := false, implicitDefEqProofs := false}) only [go_sem, ↓reduceIte, Nat.reduceAdd, Nat.reduceSub, Nat.reduceMul, Nat.reduceLT, Nat.reduceLeDiff, Nat.reduceEqDiff, Nat.reduceBEq, Nat.reduceBNe, Int.reduceToNat, Int.reduceLT, Int.reduceLE, Int.reduceNeg, reduceCtorEq, Int.reduceEq, Int.reduceNe, Bool.false_eq_true, decide_true, decide_false, beq_self_eq_true, true_and, and_true, ne_eq, not_true, not_false_eq_true, List.elem_cons, List.elem_nil, List.contains_cons, List.contains_nil, List.getD_cons_zero, List.getD_cons_succ, Int.cast_ofNat_Int, Bool.or_true, Bool.true_or, Bool.or_false, Bool.false_or]
      · simp (config := {maxSteps := 1000000, dsimp := false, implicitDefEqProofs := false}) only [go_sem, ↓reduceIte, Nat.reduceAdd, Nat.reduceSub, Nat.reduceMul, Nat.reduceLT, Nat.reduceLeDiff, Nat.reduceEqDiff, Nat.reduceBEq, Nat.reduceBNe, Int.reduceToNat, Int.reduceLT, Int.reduceLE, Int.reduceNeg, reduceCtorEq, Int.reduceEq, Int.reduceNe, Bool.false_eq_true, decide_true, decide_false, beq_self_eq_true, true_and, and_true, ne_eq, not_true, not_false_eq_true, List.elem_cons, List.elem_nil, List.contains_cons, List.contains_nil, List.getD_cons_zero, List.getD_cons_succ, Int.cast_ofNat_Int, Bool.or_true, Bool.true_or, Bool.or_false, Bool.false_or]
        refine AtFn.le ⟨82, tl [(1, I N), (3, .ptr 0 0 0), (7, .ptr 1 0 0), (36, Pa (rep (3 * N) p) true)], [(1, ⟨2, [[Pts (rep (3 * N) p), Bo true]]⟩), (0, ⟨2, [[I p.1, I p.2]]⟩)], 2, .nil⟩ [Pa (rep (3 * N) p) true] (Le.ftl (Ls := []) (y := none) [2] [] ?_ ?_ (by simp) (by simp [sg]) trivial)
          (by intro fo xs ts h; cases h; exact ⟨by simp (config := {maxSteps := 1000000, dsimp := false, implicitDefEqProofs := false}) only [go_sem, ↓reduceIte, Nat.reduceAdd, Nat.reduceSub, Nat.reduceMul, Nat.reduceLT, Nat.reduceLeDiff, Nat.reduceEqDiff, Nat.reduceBEq, Nat.reduceBNe, Int.reduceToNat, Int.reduceLT, Int.reduceLE, Int.reduceNeg, reduceCtorEq, Int.reduceEq, Int.reduceNe, Bool.false_eq_true, decide_true, decide_false, beq_self_eq_true, true_and, and_true, ne_eq, not_true, not_false_eq_true, List.elem_cons, List.elem_nil, List.contains_cons, List.contains_nil, List.getD_cons_zero, List.getD_cons_succ, Int.cast_ofNat_Int, Bool.or_true, Bool.true_or, Bool.or_false, Bool.false_or], by simp (config := {maxSteps := 1000000, dsimp := false, implicitDefEqProofs := false}) only [go_sem, ↓reduceIte, Nat.reduceAdd, Nat.reduceSub, Nat.reduceMul, Nat.reduceLT, Nat.reduceLeDiff, Nat.reduceEqDiff, Nat.reduceBEq, Nat.reduceBNe, Int.reduceToNat, Int.reduceLT, Int.reduceLE, Int.reduceNeg, reduceCtorEq, Int.reduceEq, Int.reduceNe, Bool.false_eq_true, decide_true, decide_false, beq_self_eq_true, true_and, and_true, ne_eq, not_true, not_false_eq_true, List.elem_cons, List.elem_nil, List.contains_cons, List.contains_nil, List.getD_cons_zero, List.getD_cons_succ, Int.cast_ofNat_Int, Bool.or_true, Bool.true_or, Bool.or_false, Bool.false_or]⟩) ?_
        · simp (config := {maxSteps := 1000000, dsimp := false, implicitDefEqProofs := false}) only [go_sem, ↓reduceIte, Nat.reduceAdd, Nat.reduceSub, Nat.reduceMul, Nat.reduceLT, Nat.reduceLeDiff, Nat.reduceEqDiff, Nat.reduceBEq, Nat.reduceBNe, Int.reduceToNat, Int.reduceLT, Int.reduceLE, Int.reduceNeg, reduceCtorEq, Int.reduceEq, Int.reduceNe, Bool.false_eq_true, decide_true, decide_false, beq_self_eq_true, true_and, and_true, ne_eq, not_true, not_false_eq_true, List.elem_cons, List.elem_nil, List.contains_cons, List.contains_nil, List.getD_cons_zero, List.getD_cons_succ, Int.cast_ofNat_Int, Bool.or_true, Bool.true_or, Bool.or_false, Bool.false_or, fz, pcr_take, List.length_map, rep_len, Nat.zero_add, Nat.le_refl]
          exact .cl (clPa _ _)
        · simp (config := {maxSteps := 1000000, dsimp := false, implicitDefEqProofs := false}) only [go_sem, ↓reduceIte, Nat.reduceAdd, Nat.reduceSub, Nat.reduceMul, Nat.reduceLT, Nat.reduceLeDiff, Nat.reduceEqDiff, Nat.reduceBEq, Nat.reduceBNe, Int.reduceToNat, Int.reduceLT, Int.reduceLE, Int.reduceNeg, reduceCtorEq, Int.reduceEq, Int.reduceNe, Bool.false_eq_true, decide_true, decide_false, beq_self_eq_true, true_and, and_true, ne_eq, not_true, not_false_eq_true, List.elem_cons, List.elem_nil, List.contains_cons, List.contains_nil, List.getD_cons_zero, List.getD_cons_succ, Int.cast_ofNat_Int, Bool.or_true, Bool.true_or, Bool.or_false, Bool.false_or, fz, fzB, pcr_take, List.length_map, rep_len, Nat.zero_add, Nat.le_refl]
          exact ⟨renL_cl rfl (by simp only [List.mem_cons, List.not_mem_nil, or_false, forall_eq_or_imp, forall_eq]; exact ⟨clPts' _, .v _⟩), renL_cl rfl (by simp (config := {maxSteps := 1000000, dsimp := false, implicitDefEqProofs := false}) only [go_sem, ↓reduceIte, Nat.reduceAdd, Nat.reduceSub, Nat.reduceMul, Nat.reduceLT, Nat.reduceLeDiff, Nat.reduceEqDiff, Nat.reduceBEq, Nat.reduceBNe, Int.reduceToNat, Int.reduceLT, Int.reduceLE, Int.reduceNeg, reduceCtorEq, Int.reduceEq, Int.reduceNe, Bool.false_eq_true, decide_true, decide_false, beq_self_eq_true, true_and, and_true, ne_eq, not_true, not_false_eq_true, List.elem_cons, List.elem_nil, List.contains_cons, List.contains_nil, List.getD_cons_zero, List.getD_cons_succ, Int.cast_ofNat_Int, Bool.or_true, Bool.true_or, Bool.or_false, Bool.false_or])⟩
        · have hs : (rep (3 * N) p).length < 2 ^ 20 := by rw [rep_len]; omega
          have f1 := Line (rep (3 * N) p) true hs
          have f2 := rValid (rep (3 * N) p) true (by omega)
          have f3 := Valid (rep (3 * N) p) true (by omega)
          cases hv : validW (rep (3 * N) p) true
          · rw [hv] at f1 f2 f3
            simp only [Bool.false_eq_true, if_false] at f1
            refine AtFn.pure0 f1 ?_
            simp (config := {maxSteps := 1000000, dsimp := false, implicitDefEqProofs := false}) only [go_sem, ↓reduceIte, Nat.reduceAdd, Nat.reduceSub, Nat.reduceMul, Nat.reduceLT, Nat.reduceLeDiff, Nat.reduceEqDiff, Nat.reduceBEq, Nat.reduceBNe, Int.reduceToNat, Int.reduceLT, Int.reduceLE, Int.reduceNeg, reduceCtorEq, Int.reduceEq, Int.reduceNe, Bool.false_eq_true, decide_true, decide_false, beq_self_eq_true, true_and, and_true, ne_eq, not_true, not_false_eq_true, List.elem_cons, List.elem_nil, List.contains_cons, List.contains_nil, List.getD_cons_zero, List.getD_cons_succ, Int.cast_ofNat_Int, Bool.or_true, Bool.true_or, Bool.or_false, Bool.false_or]
            refine AtFn.pure0 f2 ?_
            simp (config := {maxSteps := 1000000, dsimp := false, implicitDefEqProofs := false}) only [go_sem, ↓reduceIte, Nat.reduceAdd, Nat.reduceSub, Nat.reduceMul, Nat.reduceLT, Nat.reduceLeDiff, Nat.reduceEqDiff, Nat.reduceBEq, Nat.reduceBNe, Int.reduceToNat, Int.reduceLT, Int.reduceLE, Int.reduceNeg, reduceCtorEq, Int.reduceEq, Int.reduceNe, Bool.false_eq_true, decide_true, decide_false, beq_self_eq_true, true_and, and_true, ne_eq, not_true, not_false_eq_true, List.elem_cons, List.elem_nil, List.contains_cons, List.contains_nil, List.getD_cons_zero, List.getD_cons_succ, Int.cast_ofNat_Int, Bool.or_true, Bool.true_or, Bool.or_false, Bool.false_or]
            refine AtFn.pure0 f3 ?_
            simp (config := {maxSteps := 1000000, dsimp := false, implicitDefEqProofs := false}) only [go_sem, ↓reduceIte, Nat.reduceAdd, Nat.reduceSub, Nat.reduceMul, Nat.reduceLT, Nat.reduceLeDiff, Nat.reduceEqDiff, Nat.reduceBEq, Nat.reduceBNe, Int.reduceToNat, Int.reduceLT, Int.reduceLE, Int.reduceNeg, reduceCtorEq, Int.reduceEq, Int.reduceNe, Bool.false_eq_true, decide_true, decide_false, beq_self_eq_true, true_and, and_true, ne_eq, not_true, not_false_eq_true, List.elem_cons, List.elem_nil, List.contains_cons, List.contains_nil, List.getD_cons_zero, List.getD_cons_succ, Int.cast_ofNat_Int, Bool.or_true, Bool.true_or, Bool.or_false, Bool.false_or]
            refine AtFn.pure0 awake ?_
            simp (config := {maxSteps := 1000000, dsimp := false, implicitDefEqProofs := false}) only [go_sem, ↓reduceIte, Nat.reduceAdd, Nat.reduceSub, Nat.reduceMul, Nat.reduceLT, Nat.reduceLeDiff, Nat.reduceEqDiff, Nat.reduceBEq, Nat.reduceBNe, Int.reduceToNat, Int.reduceLT, Int.reduceLE, Int.reduceNeg, reduceCtorEq, Int.reduceEq, Int.reduceNe, Bool.false_eq_true, decide_true, decide_false, beq_self_eq_true, true_and, and_true, ne_eq, not_true, not_false_eq_true, List.elem_cons, List.elem_nil, List.contains_cons, List.contains_nil, List.getD_cons_zero, List.getD_cons_succ, Int.cast_ofNat_Int, Bool.or_true, Bool.true_or, Bool.or_false, Bool.false_or]
          · rw [hv] at f1 f2 f3
            simp only [if_true] at f1
            have hv' := (validW_iff _ _ (by omega)).1 hv
            rw [rep_len] at hv'
            have h1 : 1 ≤ (3 * N) := by
              obtain ⟨a1, a2, a3⟩ := hv'
              simp at a1 a2
              omega
            have hp : inP p = true := by
              have := hv'.2.2.2
              rw [List.all_eq_true] at this
              exact this p (List.mem_of_getElem? (rep_get (3 * N) 0 p (by omega)))
            have hl : lineW (rep (3 * N) p) = rep (N + 1) p := by
              show lineW (List.replicate (3 * N) p) = _
              rw [line_pt (3 * N) p h1 hp, show (3 * N) / 3 = N by omega]; rfl
            rw [hl] at f1
            refine AtFn.pure0 f1 ?_
            simp (config := {maxSteps := 1000000, dsimp := false, implicitDefEqProofs := false}) only [go_sem, ↓reduceIte, Nat.reduceAdd, Nat.reduceSub, Nat.reduceMul, Nat.reduceLT, Nat.reduceLeDiff, Nat.reduceEqDiff, Nat.reduceBEq, Nat.reduceBNe, Int.reduceToNat, Int.reduceLT, Int.reduceLE, Int.reduceNeg, reduceCtorEq, Int.reduceEq, Int.reduceNe, Bool.false_eq_true, decide_true, decide_false, beq_self_eq_true, true_and, and_true, ne_eq, not_true, not_false_eq_true, List.elem_cons, List.elem_nil, List.contains_cons, List.contains_nil, List.getD_cons_zero, List.getD_cons_succ, Int.cast_ofNat_Int, Bool.or_true, Bool.true_or, Bool.or_false, Bool.false_or]
            refine AtFn.pure0 f2 ?_
            simp (config := {maxSteps := 1000000, dsimp := false, implicitDefEqProofs := false}) only [go_sem, ↓reduceIte, Nat.reduceAdd, Nat.reduceSub, Nat.reduceMul, Nat.reduceLT, Nat.reduceLeDiff, Nat.reduceEqDiff, Nat.reduceBEq, Nat.reduceBNe, Int.reduceToNat, Int.reduceLT, Int.reduceLE, Int.reduceNeg, reduceCtorEq, Int.reduceEq, Int.reduceNe, Bool.false_eq_true, decide_true, decide_false, beq_self_eq_true, true_and, and_true, ne_eq, not_true, not_false_eq_true, List.elem_cons, List.elem_nil, List.contains_cons, List.contains_nil, List.getD_cons_zero, List.getD_cons_succ, Int.cast_ofNat_Int, Bool.or_true, Bool.true_or, Bool.or_false, Bool.false_or]
            refine AtCode.draw 25 [([], []), ([0], []), ([0, 1], []), ([0, 1, 2], []), ([0, 1, 2, 3], []), ([0, 1, 2, 3, 4], []), ([0, 1, 2, 3, 4, 5], []), ([0, 1, 2, 3, 4, 5, 6], []), ([0, 1, 2, 3, 4, 5, 6, 7], []), ([0, 1, 2, 3, 4, 5, 6], []), ([0, 1, 2, 3, 4, 5, 6, 9], []), ([0, 1, 2, 3, 4, 5, 6, 7, 8, 9, 10], []), ([0, 1, 2, 3, 4, 5, 6, 7, 8, 9, 10, 11], []), ([0, 1, 2, 3, 4, 5, 6, 7, 8, 9, 10, 11, 12], []), ([0, 1, 2, 3, 4, 5, 6, 7, 8, 9, 10, 11, 12, 13], []), ([0, 1, 2, 3, 4, 5, 6, 7, 8, 9, 10, 11, 12, 13], []), ([0, 1, 2, 3, 4, 5, 6, 7, 8, 9, 10, 11, 12, 13, 14, 15], []), ([0, 1, 2, 3, 4, 5, 6, 7, 8, 9, 10, 11, 12, 13, 14, 15, 16], []), ([0, 1, 2, 3, 4, 5, 6, 7, 8, 9, 10, 11, 12, 13], []), ([0, 1, 2, 3, 4, 5, 6, 7, 8, 9, 10, 11, 12, 13, 14, 15, 16, 17, 18], []), ([0, 1, 2, 3, 4, 5, 6, 7, 8, 9, 10, 11, 12, 13, 14, 15, 16, 17, 18, 19], []), ([0, 1, 2, 3, 4, 5, 6, 7, 8, 9, 10, 11, 12, 13, 14, 15, 16, 17, 18, 19, 20], []), ([0, 1, 2, 3, 4, 5, 6, 7, 8, 9, 10, 11, 12, 13, 14, 15, 16, 17, 18, 19, 20, 21], []), ([0, 1, 2, 3, 4, 5, 6, 7, 8, 9, 10, 11, 12, 13, 14, 15, 16, 17, 18, 19, 20, 21, 22], []), ([0, 1, 2, 3, 4, 5, 6, 7, 8, 9, 10, 11, 12, 13, 14, 15, 16, 17, 18, 19, 20, 21, 22, 23], [])] (by kernel_rfl) ?_
            simp (config := {maxSteps := 1000000, dsimp := false, implicitDefEqProofs := false}) only [go_sem, ↓reduceIte, Nat.reduceAdd, Nat.reduceSub, Nat.reduceMul, Nat.reduceLT, Nat.reduceLeDiff, Nat.reduceEqDiff, Nat.reduceBEq, Nat.reduceBNe, Int.reduceToNat, Int.reduceLT, Int.reduceLE, Int.reduceNeg, reduceCtorEq, Int.reduceEq, Int.reduceNe, Bool.false_eq_true, decide_true, decide_false, beq_self_eq_true, true_and, and_true, ne_eq, not_true, not_false_eq_true, List.elem_cons, List.elem_nil, List.contains_cons, List.contains_nil, List.getD_cons_zero, List.getD_cons_succ, Int.cast_ofNat_Int, Bool.or_true, Bool.true_or, Bool.or_false, Bool.false_or]
            refine QFn.use _ f3 (by simp (config := {maxSteps := 1000000, dsimp := false, implicitDefEqProofs := false}) only [go_sem, ↓reduceIte, Nat.reduceAdd, Nat.reduceSub, Nat.reduceMul, Nat.reduceLT, Nat.reduceLeDiff, Nat.reduceEqDiff, Nat.reduceBEq, Nat.reduceBNe, Int.reduceToNat, Int.reduceLT, Int.reduceLE, Int.reduceNeg, reduceCtorEq, Int.reduceEq, Int.reduceNe, Bool.false_eq_true, decide_true, decide_false, beq_self_eq_true, true_and, and_true, ne_eq, not_true, not_false_eq_true, List.elem_cons, List.elem_nil, List.contains_cons, List.contains_nil, List.getD_cons_zero, List.getD_cons_succ, Int.cast_ofNat_Int, Bool.or_true, Bool.true_or, Bool.or_false, Bool.false_or]) ?_
            simp (config := {maxSteps := 1000000, dsimp := false, implicitDefEqProofs := false}) only [go_sem, ↓reduceIte, Nat.reduceAdd, Nat.reduceSub, Nat.reduceMul, Nat.reduceLT, Nat.reduceLeDiff, Nat.reduceEqDiff, Nat.reduceBEq, Nat.reduceBNe, Int.reduceToNat, Int.reduceLT, Int.reduceLE, Int.reduceNeg, reduceCtorEq, Int.reduceEq, Int.reduceNe, Bool.false_eq_true, decide_true, decide_false, beq_self_eq_true, true_and, and_true, ne_eq, not_true, not_false_eq_true, List.elem_cons, List.elem_nil, List.contains_cons, List.contains_nil, List.getD_cons_zero, List.getD_cons_succ, Int.cast_ofNat_Int, Bool.or_true, Bool.true_or, Bool.or_false, Bool.false_or, rep_len, List.length_map, hN4, List.getElem?_map, rep_get (N + 1) N p (by omega), Int.natCast_nonneg, Int.toNat_natCast]
            refine QFn.use _ awake (by simp (config := {maxSteps := 1000000, dsimp := false, implicitDefEqProofs := false}) only [go_sem, ↓reduceIte, Nat.reduceAdd, Nat.reduceSub, Nat.reduceMul, Nat.reduceLT, Nat.reduceLeDiff, Nat.reduceEqDiff, Nat.reduceBEq, Nat.reduceBNe, Int.reduceToNat, Int.reduceLT, Int.reduceLE, Int.reduceNeg, reduceCtorEq, Int.reduceEq, Int.reduceNe, Bool.false_eq_true, decide_true, decide_false, beq_self_eq_true, true_and, and_true, ne_eq, not_true, not_false_eq_true, List.elem_cons, List.elem_nil, List.contains_cons, List.contains_nil, List.getD_cons_zero, List.getD_cons_succ, Int.cast_ofNat_Int, Bool.or_true, Bool.true_or, Bool.or_false, Bool.false_or]) ?_
            simp (config := {maxSteps := 1000000, dsimp := false, implicitDefEqProofs := false}) only [go_sem, ↓reduceIte, Nat.reduceAdd, Nat.reduceSub, Nat.reduceMul, Nat.reduceLT, Nat.reduceLeDiff, Nat.reduceEqDiff, Nat.reduceBEq, Nat.reduceBNe, Int.reduceToNat, Int.reduceLT, Int.reduceLE, Int.reduceNeg, reduceCtorEq, Int.reduceEq, Int.reduceNe, Bool.false_eq_true, decide_true, decide_false, beq_self_eq_true, true_and, and_true, ne_eq, not_true, not_false_eq_true, List.elem_cons, List.elem_nil, List.contains_cons, List.contains_nil, List.getD_cons_zero, List.getD_cons_succ, Int.cast_ofNat_Int, Bool.or_true, Bool.true_or, Bool.or_false, Bool.false_or]

end

section
set_option maxRecDepth 20000
attribute [local go_sem] clPts eqk23'
theorem third_eq (n : Int) (h1 : -600000000 ≤ n) (h2 : n ≤ 600000000) : thirdW n = (2 * n + 3) / 6 := by
  unfold thirdW
  rw [wr_add_l, wr_in (by omega) (by omega)]
  exact floorZ_eq _ _ (by omega) (by omega) (by omega)
/-- Of one coordinate: the thirds lie between, and the bend is small. -/
theorem bet1 (a d : Int) (ha : inC a = true) (hd : inC d = true) :
    ∃ r, wr (d - a) = d - a ∧ thirdW (wr (d - a)) = r ∧ wr (a + r) = a + r ∧ wr (d - r) = d - r ∧ inC (a + r) = true ∧ inC (d - r) = true ∧ -1 ≤ d - a - 3 * r ∧ d - a - 3 * r ≤ 1 := by
  rw [inC_iff] at ha hd
  have e1 : wr (d - a) = d - a := wr_in (by omega) (by omega)
  refine ⟨(2 * (d - a) + 3) / 6, e1, ?_, ?_, ?_, ?_, ?_, ?_, ?_⟩
  · rw [e1]; exact third_eq _ (by omega) (by omega)
  · exact wr_in (by omega) (by omega)
  · exact wr_in (by omega) (by omega)
  · rw [inC_iff]; omega
  · rw [inC_iff]; omega
  · omega
  · omega
theorem bend1 (a d r : Int) (h1 : -1 ≤ d - a - 3 * r) (h2 : d - a - 3 * r ≤ 1) : bendsW a (a + r) (d - r) d ≤ 1 := by
  have s1 : secW a (a + r) (d - r) = d - a - 3 * r := by
    simp only [secW, wr_add_l, wr_sub_r]
    rw [show a - 2 * (a + r) + (d - r) = d - a - 3 * r by omega, wr_in (by omega) (by omega)]
  have s2 : secW (a + r) (d - r) d = -(d - a - 3 * r) := by
    simp only [secW, wr_add_l, wr_sub_r]
    rw [show a + r - 2 * (d - r) + d = -(d - a - 3 * r) by omega, wr_in (by omega) (by omega)]
  unfold bendsW
  rw [s1, s2, wr_in (x := 0 - (d - a - 3 * r)) (by omega) (by omega), wr_in (x := 0 - -(d - a - 3 * r)) (by omega) (by omega)]
  omega
theorem bet (a d : Int × Int) (ha : inP a = true) (hd : inP d = true) : inP (betB a d) = true ∧ inP (betC a d) = true ∧ fineN a (betB a d) (betC a d) d = 0 := by
  rw [inP_iff] at ha hd
  obtain ⟨r, x1, x2, x3, x4, x5, x6, x7, x8⟩ := bet1 a.1 d.1 ha.1 hd.1
  obtain ⟨q, y1, y2, y3, y4, y5, y6, y7, y8⟩ := bet1 a.2 d.2 ha.2 hd.2
  have eB : betB a d = (a.1 + r, a.2 + q) := by simp only [betB, rX, rY, x2, y2, x3, y3]
  have eC : betC a d = (d.1 - r, d.2 - q) := by simp only [betC, rX, rY, x2, y2, x4, y4]
  rw [eB, eC]
  refine ⟨(inP_iff _).2 ⟨x5, y5⟩, (inP_iff _).2 ⟨x6, y6⟩, ?_⟩
  have b1 := bend1 a.1 d.1 r x7 x8
  have b2 := bend1 a.2 d.2 q y7 y8
  unfold fineN bend2
  exact fineW_of _ 0 (by omega) (fun j hj => by omega) (fun _ => by simp; omega)
theorem segW_two (a b c d : Int × Int) (h : (inP a && (inP b && (inP c && inP d))) = true) (hf : fineN a b c d = 0) : segW a b c d = [a, d] := by
  have h0 := seg_first a b c d h
  have h1 := seg_last a b c d h
  have hl := segW_len a b c d
  rw [hf] at h1 hl
  match he : segW a b c d, hl with
  | [x, y], _ =>
    rw [he] at h0 h1
    simp at h0 h1
    rw [h0, h1]
theorem strT_get (l : List (Int × Int)) (c : Bool) : ∀ k, (c = true ∧ k ≤ l.length ∨ k + 1 ≤ l.length) → (strT l c k).length = 3 * k ∧
    ∀ i, i < k → (strT l c k)[3 * i]? = some (l.getD i (0, 0)) ∧ (strT l c k)[3 * i + 1]? = some (betB (l.getD i (0, 0)) (l.getD ((i + 1) % l.length) (0, 0))) ∧ (strT l c k)[3 * i + 2]? = some (betC (l.getD i (0, 0)) (l.getD ((i + 1) % l.length) (0, 0)))
  | 0, _ => ⟨by simp [strT], fun i hi => by omega⟩
  | k + 1, h => by
    have hi : itemW l c k = [l.getD k (0, 0), betB (l.getD k (0, 0)) (l.getD ((k + 1) % l.length) (0, 0)), betC (l.getD k (0, 0)) (l.getD ((k + 1) % l.length) (0, 0))] := by
      unfold itemW
      rw [if_pos]
      rcases h with ⟨rfl, _⟩ | h
      · exact .inr rfl
      · exact .inl (by omega)
    obtain ⟨h1, h2⟩ := strT_get l c k (by rcases h with ⟨a, b⟩ | h; exact .inl ⟨a, by omega⟩; exact .inr (by omega))
    rw [strT_succ, hi]
    refine ⟨by simp [h1]; omega, fun i hi' => ?_⟩
    by_cases hik : i < k
    · obtain ⟨a1, a2, a3⟩ := h2 i hik
      rw [List.getElem?_append_left (by omega), List.getElem?_append_left (by omega), List.getElem?_append_left (by omega)]
      exact ⟨a1, a2, a3⟩
    · have : i = k := by omega
      subst this
      rw [List.getElem?_append_right (by omega), List.getElem?_append_right (by omega), List.getElem?_append_right (by omega), h1]
      simp only [show 3 * i - 3 * i = 0 by omega, show 3 * i + 1 - 3 * i = 1 by omega, show 3 * i + 2 - 3 * i = 2 by omega]
      exact ⟨rfl, rfl, rfl⟩
/-- How many segments a straight path has. -/
def nS (l : List (Int × Int)) (c : Bool) : Nat := if c then l.length else l.length - 1
theorem strW_get (l : List (Int × Int)) (c : Bool) (h0 : 1 ≤ l.length) : (strW l c).length = 3 * nS l c + (if c then 0 else 1) ∧
    (∀ i, i < nS l c → (strW l c)[3 * i]? = some (l.getD i (0, 0)) ∧ (strW l c)[3 * i + 1]? = some (betB (l.getD i (0, 0)) (l.getD ((i + 1) % l.length) (0, 0))) ∧ (strW l c)[3 * i + 2]? = some (betC (l.getD i (0, 0)) (l.getD ((i + 1) % l.length) (0, 0)))) ∧
    (c = false → (strW l c)[3 * nS l c]? = some (l.getD (l.length - 1) (0, 0))) := by
  cases c
  · obtain ⟨h1, h2⟩ := strT_get l false (l.length - 1) (.inr (by omega))
    have e : strW l false = strT l false (l.length - 1) ++ [l.getD (l.length - 1) (0, 0)] := by
      unfold strW
      have : strT l false l.length = strT l false ((l.length - 1) + 1) := by rw [show l.length - 1 + 1 = l.length by omega]
      rw [this, strT_succ]
      congr 1
      unfold itemW
      rw [if_neg]
      simp; omega
    rw [e]
    simp only [nS, Bool.false_eq_true, if_false]
    refine ⟨by simp [h1], fun i hi => ?_, fun _ => ?_⟩
    · obtain ⟨a1, a2, a3⟩ := h2 i hi
      rw [List.getElem?_append_left (by omega), List.getElem?_append_left (by omega), List.getElem?_append_left (by omega)]
      exact ⟨a1, a2, a3⟩
    · rw [List.getElem?_append_right (by omega), h1]; simp
  · obtain ⟨h1, h2⟩ := strT_get l true l.length (.inl ⟨rfl, Nat.le_refl _⟩)
    simp only [nS, if_true]
    exact ⟨by simpa [strW] using h1, h2, fun h => by cases h⟩
theorem strW_in (l : List (Int × Int)) (c : Bool) (h0 : 1 ≤ l.length) (ha : l.all inP = true) : (strW l c).all inP = true := by
  rw [List.all_eq_true] at ha ⊢
  intro p hp
  unfold strW strT at hp
  obtain ⟨i, hi, hp⟩ := List.mem_flatMap.1 hp
  have hi' : i < l.length := List.mem_range.1 hi
  have m1 := ha _ (getD_mem (l := l) (i := i) hi')
  have m2 := ha _ (getD_mem (l := l) (i := (i + 1) % l.length) (Nat.mod_lt _ (by omega)))
  have hb := bet _ _ m1 m2
  unfold itemW at hp
  split at hp
  · simp only [List.mem_cons, List.not_mem_nil, or_false] at hp
    rcases hp with rfl | rfl | rfl
    · exact m1
    · exact hb.1
    · exact hb.2.1
  · simp only [List.mem_cons, List.not_mem_nil, or_false] at hp
    subst hp; exact m1
theorem okS_iff (l : List (Int × Int)) (c : Bool) : okS l c = true ↔ 1 ≤ l.length ∧ l.length ≤ (if c then 200 else 201) ∧ l.all inP = true := by
  simp only [okS, Bool.and_eq_true, decide_eq_true_eq, and_assoc]
theorem str_valid (l : List (Int × Int)) (c : Bool) (h : okS l c = true) : validW (strW l c) c = true := by
  obtain ⟨h0, h1, h2⟩ := (okS_iff l c).1 h
  obtain ⟨g1, _, _⟩ := strW_get l c h0
  have hs := strW_in l c h0 h2
  rw [validW_iff _ _ (by rw [g1]; unfold nS; cases c <;> simp at h1 ⊢ <;> omega), g1]
  unfold nS
  cases c
  · simp only [Bool.false_eq_true, if_false] at h1 ⊢
    exact ⟨by omega, fun h => h.elim, by omega, hs⟩
  · simp only [if_true] at h1 ⊢
    exact ⟨by omega, fun _ => by omega, by omega, hs⟩
theorem str_line (l : List (Int × Int)) (c : Bool) (h : okS l c = true) : lineW (strW l c) = l ++ (if c then [l.getD 0 (0, 0)] else []) := by
  obtain ⟨h0, h1, h2⟩ := (okS_iff l c).1 h
  obtain ⟨g1, g2, g3⟩ := strW_get l c h0
  have hn : nSeg (strW l c) = nS l c := by
    unfold nSeg
    rw [g1]
    cases c
    · simp only [Bool.false_eq_true, if_false]; omega
    · simp only [if_true]; omega
  have hfirst : (strW l c).getD 0 (0, 0) = l.getD 0 (0, 0) := by
    by_cases hz : 0 < nS l c
    · have := (g2 0 hz).1
      simp only [Nat.mul_zero] at this
      simp [List.getD, this]
    · have hc : c = false := by
        cases c
        · rfl
        · simp only [nS, if_true] at hz; omega
      have hz' : nS l c = 0 := by omega
      have := g3 hc
      rw [hz'] at this
      have hl : l.length - 1 = 0 := by subst hc; simpa [nS] using hz'
      rw [hl] at this
      simp only [Nat.mul_zero] at this
      rw [List.getD, this]; rfl
  have hseg : ∀ i, i < nS l c → segs (strW l c) i = (l.getD i (0, 0), betB (l.getD i (0, 0)) (l.getD ((i + 1) % l.length) (0, 0)), betC (l.getD i (0, 0)) (l.getD ((i + 1) % l.length) (0, 0)), l.getD ((i + 1) % l.length) (0, 0)) := by
    intro i hi
    obtain ⟨a1, a2, a3⟩ := g2 i hi
    have a4 : (strW l c)[(3 * i + 3) % (strW l c).length]? = some (l.getD ((i + 1) % l.length) (0, 0)) := by
      rw [g1]
      cases c
      · simp only [nS, Bool.false_eq_true, if_false] at hi g2 g3 ⊢
        rw [Nat.mod_eq_of_lt (by omega), Nat.mod_eq_of_lt (by omega)]
        by_cases hl : i + 1 < l.length - 1
        · have := (g2 (i + 1) hl).1
          rwa [show 3 * (i + 1) = 3 * i + 3 by omega] at this
        · have := g3 trivial
          rw [show 3 * (l.length - 1) = 3 * i + 3 by omega, show l.length - 1 = i + 1 by omega] at this
          exact this
      · simp only [nS, if_true, Nat.add_zero] at hi g2 ⊢
        by_cases hl : i + 1 < l.length
        · have := (g2 (i + 1) hl).1
          rw [Nat.mod_eq_of_lt (by omega), Nat.mod_eq_of_lt (by omega)]
          rwa [show 3 * (i + 1) = 3 * i + 3 by omega] at this
        · have hi1 : i + 1 = l.length := by omega
          have := (g2 0 (by omega)).1
          rw [show 3 * i + 3 = 3 * l.length by omega, Nat.mod_self, hi1, Nat.mod_self]
          exact this
    simp only [segs, List.getD, a1, a2, a3, a4, Option.getD_some]
  have htail : ∀ i, i < nS l c → (segV (segs (strW l c) i)).tail = [l.getD ((i + 1) % l.length) (0, 0)] := by
    intro i hi
    rw [hseg i hi]
    have hi' : i < l.length := by unfold nS at hi; cases c <;> simp at hi <;> omega
    rw [List.all_eq_true] at h2
    have m1 := h2 _ (getD_mem (l := l) (i := i) hi')
    have m2 := h2 _ (getD_mem (l := l) (i := (i + 1) % l.length) (Nat.mod_lt _ (by omega)))
    have hb := bet _ _ m1 m2
    simp only [segV]
    rw [segW_two _ _ _ _ (by simp only [m1, m2, hb.1, hb.2.1, Bool.and_true]) hb.2.2]
    rfl
  have key : ∀ n, n ≤ nS l c → (List.range n).flatMap (fun i => (segV (segs (strW l c) i)).tail) = (List.range n).map fun i => l.getD ((i + 1) % l.length) (0, 0) := by
    intro n
    induction n with
    | zero => intro _; rfl
    | succ n ih =>
      intro hn'
      rw [List.range_succ, List.flatMap_append, ih (by omega), List.map_append]
      congr 1
      simp [htail n (by omega)]
  unfold lineW segsL
  rw [hfirst, List.flatMap_map, hn, key _ (Nat.le_refl _)]
  apply List.ext_getElem?
  intro j
  cases j with
  | zero =>
    rw [List.getElem?_cons_zero, List.getElem?_append_left (by omega)]
    exact (getD_some (l := l) (by omega) (0, 0)).symm
  | succ j =>
    rw [List.getElem?_cons_succ]
    simp only [List.getElem?_map]
    by_cases hj : j < nS l c
    · rw [List.getElem?_range hj]
      by_cases hjl : j + 1 < l.length
      · rw [List.getElem?_append_left hjl, getD_some hjl (0, 0), Option.map_some, Nat.mod_eq_of_lt hjl]
      · have hc : c = true := by
          cases c
          · simp only [nS, Bool.false_eq_true, if_false] at hj; omega
          · rfl
        subst hc
        simp only [nS, if_true] at hj
        have : j + 1 = l.length := by omega
        have e : (j + 1) % l.length = 0 := by rw [this, Nat.mod_self]
        rw [List.getElem?_append_right (by omega), Option.map_some, e, this]
        simp
    · rw [List.getElem?_eq_none (by simp; omega), Option.map_none, List.getElem?_eq_none]
      unfold nS at hj
      cases c <;> simp at hj ⊢ <;> omega

end

end Go.Proofs.Ytdhdopmjaibggaa
