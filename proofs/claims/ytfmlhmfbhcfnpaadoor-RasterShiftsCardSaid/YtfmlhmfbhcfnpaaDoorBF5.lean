/- What functions of the given program answer, part 5. Conditions: each theorem speaks for itself. -/
import Derived.Test.YtfmlhmfbhcfnpaaDoorBTy
import Derived.Test.YtfmlhmfbhcfnpaaDoorBF1
import Derived.Test.YtfmlhmfbhcfnpaaDoorBF2
import Derived.Test.YtfmlhmfbhcfnpaaDoorBF3
import Derived.Test.YtfmlhmfbhcfnpaaDoorBF4
set_option linter.unusedSimpArgs false
set_option linter.unusedVariables false
namespace Go.Proofs.YtfmlhmfbhcfnpaaDoor
open Go Go.Eng Go.RowKit
attribute [local go_sem ↓] qE_move qE_assign qE_pick qE_load qE_fieldAddr qE_indexAddr qE_extract qE_binOp qE_neg qE_not qE_convert qE_makeFunc qE_build qE_len qE_max2 qE_min2 qE_usd qE_nilCheck qE_slice vc_end vc_skip vc_scope vc_ret vc_seq vc_cond vc_block vc_exit vc_region vc_draw vc_rangeFunc vc_loop vc_blk vc_lp vc_o_nil vc_o vc_o_guard onK_eq oK_move oK_assign oK_pick oK_load oK_fieldAddr oK_indexAddr oK_index oK_extract oK_binOp oK_unOp oK_convert oK_makeFunc oK_nilCheck oK_slice oK_build oK_len oK_max oK_ustr oK_min onN_eq oK_box oK_alloc oK_buildSlice oK_makeSlice onH_eq oK_store onA_eq oK_append oK_call oK_range oK_next bV_add bV_sub bV_mul bV_quo bV_rem bV_and bV_or bV_shl bV_shr bV_eql bV_neq bV_lss bV_leq bV_gtr bV_geq bV_add_s bV_eql_s bV_neq_s vcQ_nil vcQ_cons Q_move Q_assign Q_load Q_fieldAddr Q_indexAddr Q_index Q_binOp Q_convert Q_nilCheck Q_slice Q_build Q_len Q_usd Q_min Q_call qE_index tailB_nil tailB_true onS_eq tailB_store onQ_eq loadE indexE
attribute [local go_sem] force_eq optK_some optE_some optE_none vK_v bK_v tK_t fnK_fn fyK_fn fyK_y nK_ptr pK_ptr pK_rp brK_true brK_false brK_not evA_tmp evA_const evA_func putA_some putA_none pushA_eq slots_zero tl_nil tl_cons find_cons find_nil setN_cons setN_nil dropN_nil dropN_cons loE_none loE_some hiE_none hiE_some slE_sl slE_ro slE_str bE_pp bE_p0 bE_00 bE_i bE_s bE_eql intsA_nil intsA_cons slK_sl ptrV_eql ptrV_neq gdK_b popTo_blk popTo_c popTo_lp nilE_tmp nilE_int nilE_str nilE_ptr nilE_nil srcE_ro srcE_sl srcE_str dstE_sl dstE_nil apK_E fin_eq res_nil res_tmp res_cell tup1 tup0 optA_some frz_v frz_ro frz_rp frz_g frz_fn frz_ptr frz_sl optL_some nm_v nm_ro nm_rp nm_g nm_fn nm_ptr nm_sl cells_v cells_g cells_ro cells_ptr cells_sl one_int one_string one_slice oneA_v oneA_ro oneA_ptr oneA_sl ofV_int ofV_bool ofV_string ofV_slice ofV_nilFunc ofV_pointer len_ro len_sl asI_int fill_nil fill_cons chunks_nil chunks_cons DrawK_eq idR_eq sg_nil sg_cons ren_v ren_nil ren_ptr ren_sl ren_ro ren_rp iK_ro iK_sl ixE_s RfEnd_eq RfQ_eq RfBody_eq takeA_00 takeA_s updL_cons updL_nil nil_eq maskE_eq i_InlQ i_tup2 i_RenF_nil i_RenF_cons i_cut_nil i_cut_cons wrap_wr brK_dec maskH_eq upd_get slots_succ Cl_v Cl_ro Cl_rp Cl_fn Cl_g Cl_t g_put0 g_put1 u_nil u_tmp u_cell u_fin Bool.false_eq_true decide_true decide_false beq_self_eq_true true_and and_true ne_eq not_true not_false_eq_true List.elem_cons List.elem_nil List.contains_cons List.contains_nil List.getD_cons_zero List.getD_cons_succ Int.cast_ofNat_Int Bool.or_true Bool.true_or Bool.or_false Bool.false_or if_true if_false List.toList_toArray List.map_cons List.map_nil List.cons_append List.nil_append List.append_nil List.flatMap_cons List.flatMap_nil List.getElem?_cons_zero List.getElem?_cons_succ List.length_cons List.length_nil List.drop_succ_cons List.drop_zero List.take_succ_cons List.take_zero List.all_cons List.all_nil List.set_cons_zero List.set_cons_succ Option.bind_some Option.bind_none Option.map_some Option.map_none List.headD_cons List.tail_cons List.getElem?_toArray beq_true beq_false Bool.not_true Bool.not_false Bool.true_and Bool.and_true Bool.false_and Bool.and_false newCh Option.some.injEq exists_eq_left' sg_nil sg_cons List.mem_cons List.not_mem_nil forall_eq_or_imp forall_eq false_implies implies_true or_false false_or false_and and_false or_true true_or exists_false Option.isSome_some Option.isSome_none List.range_zero
attribute [local go_sem] T.sz3 T.ag3 T.ik3 T.us3 T.sz5 T.by5 T.ag5 T.ik5 T.us5 T.ze5 T.sz9 T.by9 T.ag9 T.sl9 T.ar9 T.pt9 T.ik9 T.st9 T.ze9 T.us21 T.sz23 T.by23 T.ag23 T.sl23 T.ar23 T.pt23 T.ik23 T.us23 T.ux23 T.ze23 T.sz25 T.ag25 T.sf25 T.ze25 T.fl25_0 T.fl25_1 T.fl25_2 T.bu25 T.sz26 T.ag26 T.sf26 T.ze26 T.sz34 T.ag34 T.sf34 T.ze34 T.bu34 T.sl40 T.ik40 T.us40 T.ux40 T.sl45 T.ar45 T.ik47 T.us47 T.sz50 T.by50 T.ag50 T.sl50 T.ar50 T.sf50 T.ze50 T.bu50 T.sl68 T.ar68 T.pt68 T.sz80 T.ag80 T.ik80 T.sf82 T.ze82 T.fl82_0 T.fl82_1 T.sz83 T.ag83 T.sl83 T.ik83 T.us83 T.ux83 T.sl91 T.ik117 -- NOREP
section
set_option maxRecDepth 20000
attribute [local go_sem] clPxT
abbrev raC (r : Ra) : List AV := [I r.w, I r.h, .ro 1 (pxC r.p)]
theorem clRas (l : List Ra) : ∀ c ∈ l.map raC, ∀ s ∈ c, Cl s := fun c hc s hs => by
  obtain ⟨r, _, rfl⟩ := List.mem_map.1 hc
  simp at hs
  rcases hs with rfl | rfl | rfl
  · exact .v _
  · exact .v _
  · exact .ro (clPx _)
def fewB (l : List Ra) : Bool := l.all fun r => decide (r.p.length ≤ 70000)
theorem few18 (l : List Ra) (hl : l.length ≤ 1000) : PFun Tryd.prog 18 [.ro 3 (l.map raC)] (Bo (fewB l)) := by
  refine PFun.intro 400 mixed Tryd.func18 (by kernel_rfl) rfl (by first | exact .v _ | (simp [Cl_v, Cl_t, Cl_g, Cl_fn, Cl_rp, Cl_ro]; done) | (simp [Cl_v, Cl_t, Cl_g, Cl_fn, Cl_rp, Cl_ro, or_imp, forall_and]; done) | (split <;> simp [Cl_v, Cl_t, Cl_g, Cl_fn, Cl_rp, Cl_ro])) (Nat.le_of_ble_eq_true rfl) ?_; rw [Tryd.ntmps18, Tryd.results18]
  simp -dsimp -implicitDefEqProofs (maxSteps := 1000000) only [go_sem, ↓reduceIte, Nat.reduceAdd, Nat.reduceSub, Nat.reduceMul, Nat.reduceLT, Nat.reduceLeDiff, Nat.reduceEqDiff, Nat.reduceBEq, Nat.reduceBNe, Int.reduceToNat, Int.reduceLT, Int.reduceLE, Int.reduceNeg, reduceCtorEq, Int.reduceEq, Int.reduceNe, List.length_map]
  refine ⟨{k : Nat // k ≤ l.length ∧ fewB (l.take k) = true}, fun k => ⟨16, tl [(5, .ro 3 (l.map raC)), (6, I l.length), (7, I k.1)], [], 0, .nil⟩, fun k => l.length - k.1,
    ⟨⟨0, by omega, by simp [fewB]⟩, Le.tl0 (Ls := []) (y := none) [] ?_ (by simp -dsimp -implicitDefEqProofs (maxSteps := 1000000) only [go_sem, ↓reduceIte, Nat.reduceAdd, Nat.reduceSub, Nat.reduceMul, Nat.reduceLT, Nat.reduceLeDiff, Nat.reduceEqDiff, Nat.reduceBEq, Nat.reduceBNe, Int.reduceToNat, Int.reduceLT, Int.reduceLE, Int.reduceNeg, reduceCtorEq, Int.reduceEq, Int.reduceNe]) (by simp) (by simp [sg]) trivial⟩, fun k => ?_⟩
  · simp -dsimp -implicitDefEqProofs (maxSteps := 1000000) only [go_sem, ↓reduceIte, Nat.reduceAdd, Nat.reduceSub, Nat.reduceMul, Nat.reduceLT, Nat.reduceLeDiff, Nat.reduceEqDiff, Nat.reduceBEq, Nat.reduceBNe, Int.reduceToNat, Int.reduceLT, Int.reduceLE, Int.reduceNeg, reduceCtorEq, Int.reduceEq, Int.reduceNe]
    exact clRas _
  obtain ⟨k, hk, hf⟩ := k
  simp -dsimp -implicitDefEqProofs (maxSteps := 1000000) only [go_sem, ↓reduceIte, Nat.reduceAdd, Nat.reduceSub, Nat.reduceMul, Nat.reduceLT, Nat.reduceLeDiff, Nat.reduceEqDiff, Nat.reduceBEq, Nat.reduceBNe, Int.reduceToNat, Int.reduceLT, Int.reduceLE, Int.reduceNeg, reduceCtorEq, Int.reduceEq, Int.reduceNe]
  refine ⟨fun hk' => ?_, fun hout => ?_⟩
  · obtain ⟨r, hr⟩ : ∃ x, l[k]? = some x := ⟨_, List.getElem?_eq_getElem (by omega)⟩
    have ek := wrA1 (a := k) (by omega)
    have ht : fewB (l.take (k + 1)) = decide (r.p.length ≤ 70000) := by
      unfold fewB at hf ⊢
      rw [List.take_add_one, hr, List.all_append, hf]; simp
    simp -dsimp -implicitDefEqProofs (maxSteps := 1000000) only [go_sem, ↓reduceIte, Nat.reduceAdd, Nat.reduceSub, Nat.reduceMul, Nat.reduceLT, Nat.reduceLeDiff, Nat.reduceEqDiff, Nat.reduceBEq, Nat.reduceBNe, Int.reduceToNat, Int.reduceLT, Int.reduceLE, Int.reduceNeg, reduceCtorEq, Int.reduceEq, Int.reduceNe, List.getElem?_map, hr, Int.natCast_nonneg, Int.toNat_natCast, pxC_len]
    refine ⟨fun hb => ?_, fun hb => ?_⟩
    · have : fewB l = false := by
        unfold fewB
        rw [List.all_eq_false]
        exact ⟨r, List.mem_of_getElem? hr, by simp; omega⟩
      rw [this]
    · refine ⟨⟨k + 1, by omega, by rw [ht]; simp; omega⟩, by show l.length - (k + 1) < l.length - k; omega, Le.tl (Ls := []) (y := none) [] ?_ (by simp -dsimp -implicitDefEqProofs (maxSteps := 1000000) only [go_sem, ↓reduceIte, Nat.reduceAdd, Nat.reduceSub, Nat.reduceMul, Nat.reduceLT, Nat.reduceLeDiff, Nat.reduceEqDiff, Nat.reduceBEq, Nat.reduceBNe, Int.reduceToNat, Int.reduceLT, Int.reduceLE, Int.reduceNeg, reduceCtorEq, Int.reduceEq, Int.reduceNe]) (by simp) (by simp [sg]) trivial⟩
      simp -dsimp -implicitDefEqProofs (maxSteps := 1000000) only [go_sem, ↓reduceIte, Nat.reduceAdd, Nat.reduceSub, Nat.reduceMul, Nat.reduceLT, Nat.reduceLeDiff, Nat.reduceEqDiff, Nat.reduceBEq, Nat.reduceBNe, Int.reduceToNat, Int.reduceLT, Int.reduceLE, Int.reduceNeg, reduceCtorEq, Int.reduceEq, Int.reduceNe, ek]
      exact clRas _
  · obtain rfl : k = l.length := by omega
    rw [List.take_length] at hf
    rw [hf]
end

section
set_option maxRecDepth 20000
attribute [local go_sem] clPxT
theorem few1 (r : Ra) : PFun Tryd.prog 18 [.ro 3 [raC r]] (Bo (decide (r.p.length ≤ 70000))) := by
  have := few18 [r] (by simp)
  simpa [fewB] using this
end

section
set_option maxRecDepth 20000
attribute [local go_sem] clPxT
theorem px_mk {w h : Nat} {f : Nat → Nat → Int} {i j : Nat} (hi : i < w) (hj : j < h) : px (mkR w h f).p w i j = f i j := by
  have hl := idx_lt hi hj
  unfold px mkR List.getD
  rw [List.getElem?_map, List.getElem?_range hl]
  obtain ⟨x1, x2⟩ := at_idx (j := j) hi
  show f _ _ = _
  rw [x1, x2]
theorem shF_back {w h : Nat} (p : List Int) (dx dy n : Int) (i j : Nat) (hi : i < w) (hj : j < h) :
    shF (mkR w h (shF ⟨w, h, p⟩ dx dy n)) (-dx) (-dy) n i j = if hasB ⟨w, h, p⟩ ((i : Int) + dx) ((j : Int) + dy) then px p w i j else n := by
  unfold shF
  rw [show ((i : Int) - -dx) = i + dx by omega, show ((j : Int) - -dy) = j + dy by omega]
  show (if hasB ⟨w, h, p⟩ ((i : Int) + dx) ((j : Int) + dy) = true then _ else _) = _
  by_cases hb : hasB ⟨w, h, p⟩ ((i : Int) + dx) ((j : Int) + dy) = true
  · rw [if_pos hb, if_pos hb]
    obtain ⟨a, b, ha, hb', ha2, hb2⟩ := has_of hb
    rw [ha, hb']
    show px (mkR w h (shF ⟨w, h, p⟩ dx dy n)).p w a b = _
    rw [px_mk ha2 hb2]
    unfold shF
    rw [show ((a : Int) - dx) = i by omega, show ((b : Int) - dy) = j by omega, if_pos (by simp only [hasB, Bool.and_eq_true, decide_eq_true_eq]; omega)]
    rfl
  · rw [if_neg hb, if_neg hb]
theorem tm300 (n : Int) : -299 ≤ n.tmod 300 ∧ n.tmod 300 ≤ 299 := by
  have h1 := Int.tmod_lt_of_pos n (show (0 : Int) < 300 by omega)
  have h2 := Int.tmod_lt_of_pos (-n) (show (0 : Int) < 300 by omega)
  rw [Int.neg_tmod] at h2
  omega
theorem q256 (c : Int) : 0 ≤ wr ((IntKind.u64.wrap c).tmod 256) ∧ wr ((IntKind.u64.wrap c).tmod 256) ≤ 255 := by
  have e1 : (2 : Int) ^ IntKind.u64.bits = 18446744073709551616 := by decide
  have h0 : 0 ≤ IntKind.u64.wrap c := by
    simp only [IntKind.wrap, e1, IntKind.signed, Bool.false_and]
    simp
    omega
  have h1 := Int.tmod_nonneg 256 h0
  have h2 := Int.tmod_lt_of_pos (IntKind.u64.wrap c) (show (0 : Int) < 256 by omega)
  rw [wr_in (by omega) (by omega)]
  omega
theorem mkR_eta (w h : Nat) (f : Nat → Nat → Int) : ∃ sp : List Int, mkR w h f = ⟨w, h, sp⟩ ∧ sp.length = w * h := ⟨_, rfl, by simp⟩
theorem shifts5 (r : Ra) (hok : okP r.p) (a b c : Int) : PFun Tryd.prog 5 [RaA r, .g [I a, I b, I c]] (Bo true) := by
  have hv := valid27 r
  refine PFun.intro 400 mixed Tryd.func5 (by kernel_rfl) rfl (by first | exact .v _ | (simp [Cl_v, Cl_t, Cl_g, Cl_fn, Cl_rp, Cl_ro]; done) | (simp [Cl_v, Cl_t, Cl_g, Cl_fn, Cl_rp, Cl_ro, or_imp, forall_and]; done) | (split <;> simp [Cl_v, Cl_t, Cl_g, Cl_fn, Cl_rp, Cl_ro])) (Nat.le_of_ble_eq_true rfl) ?_; rw [Tryd.ntmps5, Tryd.results5]
  simp -dsimp -implicitDefEqProofs (maxSteps := 1000000) only [go_sem, ↓reduceIte, Nat.reduceAdd, Nat.reduceSub, Nat.reduceMul, Nat.reduceLT, Nat.reduceLeDiff, Nat.reduceEqDiff, Nat.reduceBEq, Nat.reduceBNe, Int.reduceToNat, Int.reduceLT, Int.reduceLE, Int.reduceNeg, reduceCtorEq, Int.reduceEq, Int.reduceNe]
  refine AtFn.pure (few1 r) ?_
  simp -dsimp -implicitDefEqProofs (maxSteps := 1000000) only [go_sem, ↓reduceIte, Nat.reduceAdd, Nat.reduceSub, Nat.reduceMul, Nat.reduceLT, Nat.reduceLeDiff, Nat.reduceEqDiff, Nat.reduceBEq, Nat.reduceBNe, Int.reduceToNat, Int.reduceLT, Int.reduceLE, Int.reduceNeg, reduceCtorEq, Int.reduceEq, Int.reduceNe]
  refine ⟨fun hl => ?_, fun hl => ?_⟩
  rotate_left
  · refine AtFn.pure0 awake13 ?_
    simp -dsimp -implicitDefEqProofs (maxSteps := 1000000) only [go_sem, ↓reduceIte, Nat.reduceAdd, Nat.reduceSub, Nat.reduceMul, Nat.reduceLT, Nat.reduceLeDiff, Nat.reduceEqDiff, Nat.reduceBEq, Nat.reduceBNe, Int.reduceToNat, Int.reduceLT, Int.reduceLE, Int.reduceNeg, reduceCtorEq, Int.reduceEq, Int.reduceNe]
  refine AtFn.pure0 hv ?_
  by_cases hc : vaB r = true
  rotate_left
  · have hc' : vaB r = false := by simpa using hc
    simp -dsimp -implicitDefEqProofs (maxSteps := 1000000) only [go_sem, ↓reduceIte, Nat.reduceAdd, Nat.reduceSub, Nat.reduceMul, Nat.reduceLT, Nat.reduceLeDiff, Nat.reduceEqDiff, Nat.reduceBEq, Nat.reduceBNe, Int.reduceToNat, Int.reduceLT, Int.reduceLE, Int.reduceNeg, reduceCtorEq, Int.reduceEq, Int.reduceNe, hc']
    refine AtFn.pure0 awake13 ?_
    simp -dsimp -implicitDefEqProofs (maxSteps := 1000000) only [go_sem, ↓reduceIte, Nat.reduceAdd, Nat.reduceSub, Nat.reduceMul, Nat.reduceLT, Nat.reduceLeDiff, Nat.reduceEqDiff, Nat.reduceBEq, Nat.reduceBNe, Int.reduceToNat, Int.reduceLT, Int.reduceLE, Int.reduceNeg, reduceCtorEq, Int.reduceEq, Int.reduceNe]
  simp -dsimp -implicitDefEqProofs (maxSteps := 1000000) only [go_sem, ↓reduceIte, Nat.reduceAdd, Nat.reduceSub, Nat.reduceMul, Nat.reduceLT, Nat.reduceLeDiff, Nat.reduceEqDiff, Nat.reduceBEq, Nat.reduceBNe, Int.reduceToNat, Int.reduceLT, Int.reduceLE, Int.reduceNeg, reduceCtorEq, Int.reduceEq, Int.reduceNe, hc]
  obtain ⟨w, h, p, rfl, w1, w2, h1, h2, hlen⟩ := vaR_of hc
  refine AtCode.draw 14 [([], []), ([0], []), ([0, 1], []), ([], []), ([3], []), ([3, 4], []), ([], []), ([6], []), ([6, 7], []), ([6, 7, 8], []), ([6, 7, 8, 9], []), ([0, 1, 2], []), ([0, 1, 2, 3, 4, 5, 11], []), ([0, 1, 2, 3, 4, 5, 6, 7, 8, 9, 10, 11, 12], [])] (by kernel_rfl) ?_
  simp -dsimp -implicitDefEqProofs (maxSteps := 1000000) only [go_sem, ↓reduceIte, Nat.reduceAdd, Nat.reduceSub, Nat.reduceMul, Nat.reduceLT, Nat.reduceLeDiff, Nat.reduceEqDiff, Nat.reduceBEq, Nat.reduceBNe, Int.reduceToNat, Int.reduceLT, Int.reduceLE, Int.reduceNeg, reduceCtorEq, Int.reduceEq, Int.reduceNe]
  obtain ⟨q, hq⟩ : ∃ q, wr ((IntKind.u64.wrap c).tmod 256) = q := ⟨_, rfl⟩
  obtain ⟨x, hx⟩ : ∃ x, a.tmod 300 = x := ⟨_, rfl⟩
  obtain ⟨y, hy⟩ : ∃ y, b.tmod 300 = y := ⟨_, rfl⟩
  have hqb := q256 c
  have hxb := tm300 a
  have hyb := tm300 b
  rw [hq] at hqb ⊢
  rw [hx] at hxb ⊢
  rw [hy] at hyb ⊢
  have hiq : inkB q = true := by simp [inkB]; omega
  have hN := prodN w2 h2
  obtain ⟨sp, hsp, hsl⟩ := mkR_eta w h (shF ⟨w, h, p⟩ x y q)
  obtain ⟨tp, htp, htl⟩ := mkR_eta w h (shF ⟨w, h, sp⟩ (-x) (-y) q)
  have hback : ∀ i j : Nat, i < w → j < h → px tp w i j = if hasB ⟨w, h, p⟩ ((i : Int) + x) ((j : Int) + y) then px p w i j else q := fun i j hi hj => by
    rw [← shF_back p x y q i j hi hj, hsp, ← px_mk (f := shF ⟨w, h, sp⟩ (-x) (-y) q) hi hj, htp]
  have c1 : PFun Tryd.prog 28 [RaA ⟨w, h, p⟩, I x, I y, I q] (RE (⟨w, h, sp⟩, 0)) := by
    have := shift28 ⟨w, h, p⟩ x y q
    unfold shiftP at this
    rw [if_pos (by rw [hc, hiq]; rfl)] at this
    exact hsp ▸ this
  have hc2 : vaB ⟨w, h, sp⟩ = true := vaB_mk w1 w2 h1 h2 hsl
  have n1 : wr (0 - x) = -x := by rw [wr_in] <;> omega
  have n2 : wr (0 - y) = -y := by rw [wr_in] <;> omega
  have c2 : PFun Tryd.prog 28 [RaA ⟨w, h, sp⟩, I (-x), I (-y), I q] (RE (⟨w, h, tp⟩, 0)) := by
    have := shift28 ⟨w, h, sp⟩ (-x) (-y) q
    unfold shiftP at this
    rw [if_pos (by rw [hc2, hiq]; rfl)] at this
    exact htp ▸ this
  refine AtFn.pure0 c1 ?_
  simp -dsimp -implicitDefEqProofs (maxSteps := 1000000) only [go_sem, ↓reduceIte, Nat.reduceAdd, Nat.reduceSub, Nat.reduceMul, Nat.reduceLT, Nat.reduceLeDiff, Nat.reduceEqDiff, Nat.reduceBEq, Nat.reduceBNe, Int.reduceToNat, Int.reduceLT, Int.reduceLE, Int.reduceNeg, reduceCtorEq, Int.reduceEq, Int.reduceNe, n1, n2]
  refine AtFn.pure0 c2 ?_
  simp -dsimp -implicitDefEqProofs (maxSteps := 1000000) only [go_sem, ↓reduceIte, Nat.reduceAdd, Nat.reduceSub, Nat.reduceMul, Nat.reduceLT, Nat.reduceLeDiff, Nat.reduceEqDiff, Nat.reduceBEq, Nat.reduceBNe, Int.reduceToNat, Int.reduceLT, Int.reduceLE, Int.reduceNeg, reduceCtorEq, Int.reduceEq, Int.reduceNe]
  refine ⟨{j : Nat // j ≤ h}, fun j => ⟨137, tl [(2, .ptr 0 0 0), (5, I x), (6, I y), (7, I q), (10, .ptr 1 0 0), (75, I h), (76, I j.1)], [(0, ⟨3, [[I w, I h, .ro 1 (pxC p)]]⟩), (1, ⟨3, [[I w, I h, .ro 1 (pxC tp)]]⟩)], 2, .nil⟩, fun j => h - j.1,
    ⟨⟨0, by omega⟩, Le.tl (Ls := []) (y := none) [(1, 18)] (by simp -dsimp -implicitDefEqProofs (maxSteps := 1000000) only [go_sem, ↓reduceIte, Nat.reduceAdd, Nat.reduceSub, Nat.reduceMul, Nat.reduceLT, Nat.reduceLeDiff, Nat.reduceEqDiff, Nat.reduceBEq, Nat.reduceBNe, Int.reduceToNat, Int.reduceLT, Int.reduceLE, Int.reduceNeg, reduceCtorEq, Int.reduceEq, Int.reduceNe]) ?_ (by simp) (by simp [sg]) trivial⟩, fun j => ?_⟩
  · simp -dsimp -implicitDefEqProofs (maxSteps := 1000000) only [go_sem, ↓reduceIte, Nat.reduceAdd, Nat.reduceSub, Nat.reduceMul, Nat.reduceLT, Nat.reduceLeDiff, Nat.reduceEqDiff, Nat.reduceBEq, Nat.reduceBNe, Int.reduceToNat, Int.reduceLT, Int.reduceLE, Int.reduceNeg, reduceCtorEq, Int.reduceEq, Int.reduceNe]
    exact ⟨renL_F (by simp -dsimp -implicitDefEqProofs (maxSteps := 1000000) only [go_sem, ↓reduceIte, Nat.reduceAdd, Nat.reduceSub, Nat.reduceMul, Nat.reduceLT, Nat.reduceLeDiff, Nat.reduceEqDiff, Nat.reduceBEq, Nat.reduceBNe, Int.reduceToNat, Int.reduceLT, Int.reduceLE, Int.reduceNeg, reduceCtorEq, Int.reduceEq, Int.reduceNe]), renL_F (by simp -dsimp -implicitDefEqProofs (maxSteps := 1000000) only [go_sem, ↓reduceIte, Nat.reduceAdd, Nat.reduceSub, Nat.reduceMul, Nat.reduceLT, Nat.reduceLeDiff, Nat.reduceEqDiff, Nat.reduceBEq, Nat.reduceBNe, Int.reduceToNat, Int.reduceLT, Int.reduceLE, Int.reduceNeg, reduceCtorEq, Int.reduceEq, Int.reduceNe])⟩
  obtain ⟨j, hj⟩ := j
  simp -dsimp -implicitDefEqProofs (maxSteps := 1000000) only [go_sem, ↓reduceIte, Nat.reduceAdd, Nat.reduceSub, Nat.reduceMul, Nat.reduceLT, Nat.reduceLeDiff, Nat.reduceEqDiff, Nat.reduceBEq, Nat.reduceBNe, Int.reduceToNat, Int.reduceLT, Int.reduceLE, Int.reduceNeg, reduceCtorEq, Int.reduceEq, Int.reduceNe]
  refine ⟨fun hj' => ?_, fun hout => ?_⟩
  rotate_left
  · refine AtFn.pure0 awake13 ?_
    simp -dsimp -implicitDefEqProofs (maxSteps := 1000000) only [go_sem, ↓reduceIte, Nat.reduceAdd, Nat.reduceSub, Nat.reduceMul, Nat.reduceLT, Nat.reduceLeDiff, Nat.reduceEqDiff, Nat.reduceBEq, Nat.reduceBNe, Int.reduceToNat, Int.reduceLT, Int.reduceLE, Int.reduceNeg, reduceCtorEq, Int.reduceEq, Int.reduceNe]
  have hjl : j < h := by omega
  have ej := wrA1 (a := j) (by omega)
  refine ⟨{i : Nat // i ≤ w}, fun i => ⟨137, tl [(2, .ptr 0 0 0), (5, I x), (6, I y), (7, I q), (10, .ptr 1 0 0), (12, I j), (75, I h), (76, I j), (80, I w), (81, I i.1)], [(0, ⟨3, [[I w, I h, .ro 1 (pxC p)]]⟩), (1, ⟨3, [[I w, I h, .ro 1 (pxC tp)]]⟩)], 2, .nil⟩, fun i => w - i.1,
    ⟨⟨0, by omega⟩, Le.tl (Ls := []) (y := none) [] (by simp -dsimp -implicitDefEqProofs (maxSteps := 1000000) only [go_sem, ↓reduceIte, Nat.reduceAdd, Nat.reduceSub, Nat.reduceMul, Nat.reduceLT, Nat.reduceLeDiff, Nat.reduceEqDiff, Nat.reduceBEq, Nat.reduceBNe, Int.reduceToNat, Int.reduceLT, Int.reduceLE, Int.reduceNeg, reduceCtorEq, Int.reduceEq, Int.reduceNe]) ?_ (by simp) (by simp [sg]) trivial⟩, fun i => ?_⟩
  · simp -dsimp -implicitDefEqProofs (maxSteps := 1000000) only [go_sem, ↓reduceIte, Nat.reduceAdd, Nat.reduceSub, Nat.reduceMul, Nat.reduceLT, Nat.reduceLeDiff, Nat.reduceEqDiff, Nat.reduceBEq, Nat.reduceBNe, Int.reduceToNat, Int.reduceLT, Int.reduceLE, Int.reduceNeg, reduceCtorEq, Int.reduceEq, Int.reduceNe]
    exact ⟨renL_F (by simp -dsimp -implicitDefEqProofs (maxSteps := 1000000) only [go_sem, ↓reduceIte, Nat.reduceAdd, Nat.reduceSub, Nat.reduceMul, Nat.reduceLT, Nat.reduceLeDiff, Nat.reduceEqDiff, Nat.reduceBEq, Nat.reduceBNe, Int.reduceToNat, Int.reduceLT, Int.reduceLE, Int.reduceNeg, reduceCtorEq, Int.reduceEq, Int.reduceNe]), renL_F (by simp -dsimp -implicitDefEqProofs (maxSteps := 1000000) only [go_sem, ↓reduceIte, Nat.reduceAdd, Nat.reduceSub, Nat.reduceMul, Nat.reduceLT, Nat.reduceLeDiff, Nat.reduceEqDiff, Nat.reduceBEq, Nat.reduceBNe, Int.reduceToNat, Int.reduceLT, Int.reduceLE, Int.reduceNeg, reduceCtorEq, Int.reduceEq, Int.reduceNe])⟩
  obtain ⟨i, hi⟩ := i
  simp -dsimp -implicitDefEqProofs (maxSteps := 1000000) only [go_sem, ↓reduceIte, Nat.reduceAdd, Nat.reduceSub, Nat.reduceMul, Nat.reduceLT, Nat.reduceLeDiff, Nat.reduceEqDiff, Nat.reduceBEq, Nat.reduceBNe, Int.reduceToNat, Int.reduceLT, Int.reduceLE, Int.reduceNeg, reduceCtorEq, Int.reduceEq, Int.reduceNe]
  refine ⟨fun hi' => ?_, fun hout => ?_⟩
  rotate_left
  · refine ⟨⟨j + 1, by omega⟩, by show h - (j + 1) < h - j; omega, Le.tl (Ls := []) (y := none) [] (by simp -dsimp -implicitDefEqProofs (maxSteps := 1000000) only [go_sem, ↓reduceIte, Nat.reduceAdd, Nat.reduceSub, Nat.reduceMul, Nat.reduceLT, Nat.reduceLeDiff, Nat.reduceEqDiff, Nat.reduceBEq, Nat.reduceBNe, Int.reduceToNat, Int.reduceLT, Int.reduceLE, Int.reduceNeg, reduceCtorEq, Int.reduceEq, Int.reduceNe, ej]) ?_ (by simp) (by simp [sg]) trivial⟩
    simp -dsimp -implicitDefEqProofs (maxSteps := 1000000) only [go_sem, ↓reduceIte, Nat.reduceAdd, Nat.reduceSub, Nat.reduceMul, Nat.reduceLT, Nat.reduceLeDiff, Nat.reduceEqDiff, Nat.reduceBEq, Nat.reduceBNe, Int.reduceToNat, Int.reduceLT, Int.reduceLE, Int.reduceNeg, reduceCtorEq, Int.reduceEq, Int.reduceNe]
    exact ⟨renL_F (by simp -dsimp -implicitDefEqProofs (maxSteps := 1000000) only [go_sem, ↓reduceIte, Nat.reduceAdd, Nat.reduceSub, Nat.reduceMul, Nat.reduceLT, Nat.reduceLeDiff, Nat.reduceEqDiff, Nat.reduceBEq, Nat.reduceBNe, Int.reduceToNat, Int.reduceLT, Int.reduceLE, Int.reduceNeg, reduceCtorEq, Int.reduceEq, Int.reduceNe]), renL_F (by simp -dsimp -implicitDefEqProofs (maxSteps := 1000000) only [go_sem, ↓reduceIte, Nat.reduceAdd, Nat.reduceSub, Nat.reduceMul, Nat.reduceLT, Nat.reduceLeDiff, Nat.reduceEqDiff, Nat.reduceBEq, Nat.reduceBNe, Int.reduceToNat, Int.reduceLT, Int.reduceLE, Int.reduceNeg, reduceCtorEq, Int.reduceEq, Int.reduceNe])⟩
  have hil : i < w := by omega
  have ei := wrA1 (a := i) (by omega)
  have hq1 := idx_lt (i := i) (j := j) (w := w) (h := h) hil hjl
  have b1 := wrM (a := j) (b := w) (by omega)
  have b2 := wrA (a := j * w) (b := i) (by omega)
  have z1 : wr ((i : Int) + x) = i + x := wr_in (by omega) (by omega)
  have z2 : wr ((j : Int) + y) = j + y := wr_in (by omega) (by omega)
  have hb1 := hback i j hil hjl
  have hg1 := getD_some (p := p) (k := j * w + i) (by omega)
  have hg2 := getD_some (p := tp) (k := j * w + i) (by omega)
  have l1 : ((j * w + i : Nat) : Int) < (p.length : Int) := by omega
  have l2 : ((j * w + i : Nat) : Int) < (tp.length : Int) := by omega
  by_cases hb : hasB ⟨w, h, p⟩ ((i : Int) + x) ((j : Int) + y) = true
  · rw [if_pos hb] at hb1
    unfold px at hb1
    simp only [hasB, Bool.and_eq_true, decide_eq_true_eq] at hb
    obtain ⟨⟨⟨k1, k2⟩, k3⟩, k4⟩ := hb
    simp -dsimp -implicitDefEqProofs (maxSteps := 1000000) only [go_sem, ↓reduceIte, Nat.reduceAdd, Nat.reduceSub, Nat.reduceMul, Nat.reduceLT, Nat.reduceLeDiff, Nat.reduceEqDiff, Nat.reduceBEq, Nat.reduceBNe, Int.reduceToNat, Int.reduceLT, Int.reduceLE, Int.reduceNeg, reduceCtorEq, Int.reduceEq, Int.reduceNe, z1, z2, k1, k2, k3, k4, b1, b2, pxC_len, pxC_get, Int.natCast_nonneg, Int.toNat_natCast, Nat.zero_add, hg1, hg2, hb1, l1, l2]
    intro _ _ _ _
    refine ⟨⟨i + 1, by omega⟩, by show w - (i + 1) < w - i; omega, Le.tl (Ls := []) (y := none) [] (by simp -dsimp -implicitDefEqProofs (maxSteps := 1000000) only [go_sem, ↓reduceIte, Nat.reduceAdd, Nat.reduceSub, Nat.reduceMul, Nat.reduceLT, Nat.reduceLeDiff, Nat.reduceEqDiff, Nat.reduceBEq, Nat.reduceBNe, Int.reduceToNat, Int.reduceLT, Int.reduceLE, Int.reduceNeg, reduceCtorEq, Int.reduceEq, Int.reduceNe, ei]) ?_ (by simp) (by simp [sg]) trivial⟩
    simp -dsimp -implicitDefEqProofs (maxSteps := 1000000) only [go_sem, ↓reduceIte, Nat.reduceAdd, Nat.reduceSub, Nat.reduceMul, Nat.reduceLT, Nat.reduceLeDiff, Nat.reduceEqDiff, Nat.reduceBEq, Nat.reduceBNe, Int.reduceToNat, Int.reduceLT, Int.reduceLE, Int.reduceNeg, reduceCtorEq, Int.reduceEq, Int.reduceNe]
    exact ⟨renL_F (by simp -dsimp -implicitDefEqProofs (maxSteps := 1000000) only [go_sem, ↓reduceIte, Nat.reduceAdd, Nat.reduceSub, Nat.reduceMul, Nat.reduceLT, Nat.reduceLeDiff, Nat.reduceEqDiff, Nat.reduceBEq, Nat.reduceBNe, Int.reduceToNat, Int.reduceLT, Int.reduceLE, Int.reduceNeg, reduceCtorEq, Int.reduceEq, Int.reduceNe]), renL_F (by simp -dsimp -implicitDefEqProofs (maxSteps := 1000000) only [go_sem, ↓reduceIte, Nat.reduceAdd, Nat.reduceSub, Nat.reduceMul, Nat.reduceLT, Nat.reduceLeDiff, Nat.reduceEqDiff, Nat.reduceBEq, Nat.reduceBNe, Int.reduceToNat, Int.reduceLT, Int.reduceLE, Int.reduceNeg, reduceCtorEq, Int.reduceEq, Int.reduceNe])⟩
  · rw [if_neg hb] at hb1
    unfold px at hb1
    have k5 : ¬ (0 ≤ (i : Int) + x ∧ (i : Int) + x < w ∧ 0 ≤ (j : Int) + y ∧ (j : Int) + y < h) := fun hh => hb (by simp only [hasB, Bool.and_eq_true, decide_eq_true_eq]; omega)
    have uq := u8_ink hiq
    simp -dsimp -implicitDefEqProofs (maxSteps := 1000000) only [go_sem, ↓reduceIte, Nat.reduceAdd, Nat.reduceSub, Nat.reduceMul, Nat.reduceLT, Nat.reduceLeDiff, Nat.reduceEqDiff, Nat.reduceBEq, Nat.reduceBNe, Int.reduceToNat, Int.reduceLT, Int.reduceLE, Int.reduceNeg, reduceCtorEq, Int.reduceEq, Int.reduceNe, uq, z1, z2, b1, b2, pxC_len, pxC_get, Int.natCast_nonneg, Int.toNat_natCast, Nat.zero_add, hg1, hg2, hb1, l1, l2]
    refine ⟨fun k1 => ⟨fun k2 => ⟨fun k3 => ⟨fun k4 => ?_, fun k4 => ?_⟩, fun k3 => ?_⟩, fun k2 => ?_⟩, fun k1 => ?_⟩
    · exact absurd ⟨k1, k2, k3, k4⟩ k5
    next =>
      refine ⟨⟨i + 1, by omega⟩, by show w - (i + 1) < w - i; omega, Le.tl (Ls := []) (y := none) [] (by simp -dsimp -implicitDefEqProofs (maxSteps := 1000000) only [go_sem, ↓reduceIte, Nat.reduceAdd, Nat.reduceSub, Nat.reduceMul, Nat.reduceLT, Nat.reduceLeDiff, Nat.reduceEqDiff, Nat.reduceBEq, Nat.reduceBNe, Int.reduceToNat, Int.reduceLT, Int.reduceLE, Int.reduceNeg, reduceCtorEq, Int.reduceEq, Int.reduceNe, ei]) ?_ (by simp) (by simp [sg]) trivial⟩
      simp -dsimp -implicitDefEqProofs (maxSteps := 1000000) only [go_sem, ↓reduceIte, Nat.reduceAdd, Nat.reduceSub, Nat.reduceMul, Nat.reduceLT, Nat.reduceLeDiff, Nat.reduceEqDiff, Nat.reduceBEq, Nat.reduceBNe, Int.reduceToNat, Int.reduceLT, Int.reduceLE, Int.reduceNeg, reduceCtorEq, Int.reduceEq, Int.reduceNe]
      exact ⟨renL_F (by simp -dsimp -implicitDefEqProofs (maxSteps := 1000000) only [go_sem, ↓reduceIte, Nat.reduceAdd, Nat.reduceSub, Nat.reduceMul, Nat.reduceLT, Nat.reduceLeDiff, Nat.reduceEqDiff, Nat.reduceBEq, Nat.reduceBNe, Int.reduceToNat, Int.reduceLT, Int.reduceLE, Int.reduceNeg, reduceCtorEq, Int.reduceEq, Int.reduceNe]), renL_F (by simp -dsimp -implicitDefEqProofs (maxSteps := 1000000) only [go_sem, ↓reduceIte, Nat.reduceAdd, Nat.reduceSub, Nat.reduceMul, Nat.reduceLT, Nat.reduceLeDiff, Nat.reduceEqDiff, Nat.reduceBEq, Nat.reduceBNe, Int.reduceToNat, Int.reduceLT, Int.reduceLE, Int.reduceNeg, reduceCtorEq, Int.reduceEq, Int.reduceNe])⟩
    next =>
      refine ⟨⟨i + 1, by omega⟩, by show w - (i + 1) < w - i; omega, Le.tl (Ls := []) (y := none) [] (by simp -dsimp -implicitDefEqProofs (maxSteps := 1000000) only [go_sem, ↓reduceIte, Nat.reduceAdd, Nat.reduceSub, Nat.reduceMul, Nat.reduceLT, Nat.reduceLeDiff, Nat.reduceEqDiff, Nat.reduceBEq, Nat.reduceBNe, Int.reduceToNat, Int.reduceLT, Int.reduceLE, Int.reduceNeg, reduceCtorEq, Int.reduceEq, Int.reduceNe, ei]) ?_ (by simp) (by simp [sg]) trivial⟩
      simp -dsimp -implicitDefEqProofs (maxSteps := 1000000) only [go_sem, ↓reduceIte, Nat.reduceAdd, Nat.reduceSub, Nat.reduceMul, Nat.reduceLT, Nat.reduceLeDiff, Nat.reduceEqDiff, Nat.reduceBEq, Nat.reduceBNe, Int.reduceToNat, Int.reduceLT, Int.reduceLE, Int.reduceNeg, reduceCtorEq, Int.reduceEq, Int.reduceNe]
      exact ⟨renL_F (by simp -dsimp -implicitDefEqProofs (maxSteps := 1000000) only [go_sem, ↓reduceIte, Nat.reduceAdd, Nat.reduceSub, Nat.reduceMul, Nat.reduceLT, Nat.reduceLeDiff, Nat.reduceEqDiff, Nat.reduceBEq, Nat.reduceBNe, Int.reduceToNat, Int.reduceLT, Int.reduceLE, Int.reduceNeg, reduceCtorEq, Int.reduceEq, Int.reduceNe]), renL_F (by simp -dsimp -implicitDefEqProofs (maxSteps := 1000000) only [go_sem, ↓reduceIte, Nat.reduceAdd, Nat.reduceSub, Nat.reduceMul, Nat.reduceLT, Nat.reduceLeDiff, Nat.reduceEqDiff, Nat.reduceBEq, Nat.reduceBNe, Int.reduceToNat, Int.reduceLT, Int.reduceLE, Int.reduceNeg, reduceCtorEq, Int.reduceEq, Int.reduceNe])⟩
    next =>
      refine ⟨⟨i + 1, by omega⟩, by show w - (i + 1) < w - i; omega, Le.tl (Ls := []) (y := none) [] (by simp -dsimp -implicitDefEqProofs (maxSteps := 1000000) only [go_sem, ↓reduceIte, Nat.reduceAdd, Nat.reduceSub, Nat.reduceMul, Nat.reduceLT, Nat.reduceLeDiff, Nat.reduceEqDiff, Nat.reduceBEq, Nat.reduceBNe, Int.reduceToNat, Int.reduceLT, Int.reduceLE, Int.reduceNeg, reduceCtorEq, Int.reduceEq, Int.reduceNe, ei]) ?_ (by simp) (by simp [sg]) trivial⟩
      simp -dsimp -implicitDefEqProofs (maxSteps := 1000000) only [go_sem, ↓reduceIte, Nat.reduceAdd, Nat.reduceSub, Nat.reduceMul, Nat.reduceLT, Nat.reduceLeDiff, Nat.reduceEqDiff, Nat.reduceBEq, Nat.reduceBNe, Int.reduceToNat, Int.reduceLT, Int.reduceLE, Int.reduceNeg, reduceCtorEq, Int.reduceEq, Int.reduceNe]
      exact ⟨renL_F (by simp -dsimp -implicitDefEqProofs (maxSteps := 1000000) only [go_sem, ↓reduceIte, Nat.reduceAdd, Nat.reduceSub, Nat.reduceMul, Nat.reduceLT, Nat.reduceLeDiff, Nat.reduceEqDiff, Nat.reduceBEq, Nat.reduceBNe, Int.reduceToNat, Int.reduceLT, Int.reduceLE, Int.reduceNeg, reduceCtorEq, Int.reduceEq, Int.reduceNe]), renL_F (by simp -dsimp -implicitDefEqProofs (maxSteps := 1000000) only [go_sem, ↓reduceIte, Nat.reduceAdd, Nat.reduceSub, Nat.reduceMul, Nat.reduceLT, Nat.reduceLeDiff, Nat.reduceEqDiff, Nat.reduceBEq, Nat.reduceBNe, Int.reduceToNat, Int.reduceLT, Int.reduceLE, Int.reduceNeg, reduceCtorEq, Int.reduceEq, Int.reduceNe])⟩
    next =>
      refine ⟨⟨i + 1, by omega⟩, by show w - (i + 1) < w - i; omega, Le.tl (Ls := []) (y := none) [] (by simp -dsimp -implicitDefEqProofs (maxSteps := 1000000) only [go_sem, ↓reduceIte, Nat.reduceAdd, Nat.reduceSub, Nat.reduceMul, Nat.reduceLT, Nat.reduceLeDiff, Nat.reduceEqDiff, Nat.reduceBEq, Nat.reduceBNe, Int.reduceToNat, Int.reduceLT, Int.reduceLE, Int.reduceNeg, reduceCtorEq, Int.reduceEq, Int.reduceNe, ei]) ?_ (by simp) (by simp [sg]) trivial⟩
      simp -dsimp -implicitDefEqProofs (maxSteps := 1000000) only [go_sem, ↓reduceIte, Nat.reduceAdd, Nat.reduceSub, Nat.reduceMul, Nat.reduceLT, Nat.reduceLeDiff, Nat.reduceEqDiff, Nat.reduceBEq, Nat.reduceBNe, Int.reduceToNat, Int.reduceLT, Int.reduceLE, Int.reduceNeg, reduceCtorEq, Int.reduceEq, Int.reduceNe]
      exact ⟨renL_F (by simp -dsimp -implicitDefEqProofs (maxSteps := 1000000) only [go_sem, ↓reduceIte, Nat.reduceAdd, Nat.reduceSub, Nat.reduceMul, Nat.reduceLT, Nat.reduceLeDiff, Nat.reduceEqDiff, Nat.reduceBEq, Nat.reduceBNe, Int.reduceToNat, Int.reduceLT, Int.reduceLE, Int.reduceNeg, reduceCtorEq, Int.reduceEq, Int.reduceNe]), renL_F (by simp -dsimp -implicitDefEqProofs (maxSteps := 1000000) only [go_sem, ↓reduceIte, Nat.reduceAdd, Nat.reduceSub, Nat.reduceMul, Nat.reduceLT, Nat.reduceLeDiff, Nat.reduceEqDiff, Nat.reduceBEq, Nat.reduceBNe, Int.reduceToNat, Int.reduceLT, Int.reduceLE, Int.reduceNeg, reduceCtorEq, Int.reduceEq, Int.reduceNe])⟩
end

section
theorem u8_wf {n : Int} (h : (Lit.int .u8 n).wf = true) : 0 ≤ n ∧ n ≤ 255 := by
  simp [Lit.wf, IntKind.min, IntKind.max] at h
  first | exact h | (simp [IntKind.signed, IntKind.bits] at h; omega)
end

end Go.Proofs.YtfmlhmfbhcfnpaaDoor
