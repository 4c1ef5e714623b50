/- What functions of the given program answer, part 5. Conditions: each theorem speaks for itself. -/
import Derived.Test.YtfmlhmfbhcfnpaaDoorBTy
import Derived.Test.YtfmlhmfbhcfnpaaDoorBF1
import Derived.Test.YtfmlhmfbhcfnpaaDoorBF2
import Derived.Test.YtfmlhmfbhcfnpaaDoorBF3
import Derived.Test.YtfmlhmfbhcfnpaaDoorBF4
set_option linter.unusedSimpArgs false
set_option linter.unusedVariables false
namespace Go.Proofs.YtfmlhmfbhcfnpaaDoor
open Go Go.Eng Go.RowKit
attribute [local go_sem ↓] qE_move qE_assign qE_pick qE_load qE_fieldAddr qE_indexAddr qE_extract qE_binOp qE_not qE_convert qE_makeFunc qE_build qE_len qE_max2 qE_min2 qE_usd qE_nilCheck qE_slice vc_end vc_skip vc_scope vc_ret vc_seq vc_cond vc_block vc_exit vc_region vc_draw vc_rangeFunc vc_loop vc_blk vc_lp vc_o_nil vc_o vc_o_guard onK_eq oK_move oK_assign oK_pick oK_load oK_fieldAddr oK_indexAddr oK_index oK_extract oK_binOp oK_unOp oK_convert oK_makeFunc oK_nilCheck oK_slice oK_build oK_len oK_max oK_ustr oK_min onN_eq oK_box oK_alloc oK_buildSlice oK_makeSlice onH_eq oK_store onA_eq oK_append oK_call oK_range oK_next bV_add bV_sub bV_mul bV_quo bV_rem bV_and bV_or bV_shl bV_shr bV_eql bV_neq bV_lss bV_leq bV_gtr bV_geq bV_add_s bV_eql_s bV_neq_s vcQ_nil vcQ_cons Q_move Q_assign Q_load Q_fieldAddr Q_indexAddr Q_index Q_binOp Q_nilCheck Q_slice Q_build Q_len Q_usd Q_min Q_buildSlice Q_call qE_index tailB_nil tailB_true onS_eq tailB_store onQ_eq loadE indexE
attribute [local go_sem] force_eq optK_some optE_some optE_none vK_v bK_v tK_t fnK_fn fyK_fn fyK_y nK_ptr pK_ptr pK_rp brK_true brK_false brK_not evA_tmp evA_const evA_func putA_some putA_none pushA_eq slots_zero tl_nil tl_cons find_cons find_nil setN_cons setN_nil dropN_nil dropN_cons loE_none loE_some hiE_none hiE_some slE_sl slE_ro slE_str bE_pp bE_p0 bE_00 bE_i bE_s bE_eql bE_neq intsA_nil intsA_cons slK_sl ptrV_eql ptrV_neq gdK_b popTo_blk popTo_c popTo_lp nilE_tmp nilE_int nilE_str nilE_ptr nilE_nil srcE_ro srcE_sl srcE_str dstE_sl dstE_nil apK_E fin_eq res_nil res_tmp res_cell tup1 tup0 optA_some frz_v frz_ro frz_rp frz_g frz_fn frz_ptr frz_sl optL_some nm_v nm_ro nm_rp nm_g nm_fn nm_ptr nm_sl cells_v cells_g cells_ro cells_ptr cells_sl one_int one_string one_slice oneA_v oneA_ro oneA_ptr oneA_sl ofV_int ofV_bool ofV_string ofV_slice ofV_nilFunc ofV_pointer len_ro len_sl asI_int fill_nil fill_cons chunks_nil chunks_cons DrawK_eq idR_eq roB_cons sg_nil sg_cons ren_v ren_nil ren_ptr ren_sl ren_ro ren_rp iK_ro iK_sl ixE_s RfEnd_eq RfQ_eq RfBody_eq takeA_00 takeA_s updL_cons updL_nil nil_eq maskE_eq i_InlQ i_tup2 i_RenF_nil i_RenF_cons i_cut_nil i_cut_cons wrap_wr brK_dec maskH_eq upd_get slots_succ Cl_v Cl_ro Cl_rp Cl_fn Cl_g Cl_t g_put0 g_put1 u_nil u_tmp u_cell u_fin Bool.false_eq_true decide_true decide_false beq_self_eq_true true_and and_true ne_eq not_true not_false_eq_true List.elem_cons List.elem_nil List.contains_cons List.contains_nil List.getD_cons_zero List.getD_cons_succ Int.cast_ofNat_Int Bool.or_true Bool.true_or Bool.or_false Bool.false_or if_true if_false List.toList_toArray List.map_cons List.map_nil List.cons_append List.nil_append List.append_nil List.flatMap_cons List.flatMap_nil List.getElem?_cons_zero List.getElem?_cons_succ List.length_cons List.length_nil List.drop_succ_cons List.drop_zero List.take_succ_cons List.take_zero List.all_cons List.all_nil List.set_cons_zero List.set_cons_succ Option.bind_some Option.bind_none Option.map_some Option.map_none List.headD_cons List.tail_cons List.getElem?_toArray beq_true beq_false Bool.not_true Bool.not_false Bool.true_and Bool.and_true Bool.false_and Bool.and_false newCh Option.some.injEq exists_eq_left' sg_nil sg_cons List.mem_cons List.not_mem_nil forall_eq_or_imp forall_eq false_implies implies_true or_false false_or false_and and_false or_true true_or exists_false Option.isSome_some Option.isSome_none List.range_zero
attribute [local go_sem] T.sz3 T.ag3 T.ik3 T.us3 T.sz5 T.by5 T.ag5 T.ik5 T.us5 T.ze5 T.sz9 T.by9 T.ag9 T.sl9 T.ar9 T.pt9 T.ik9 T.st9 T.ze9 T.us21 T.sz23 T.by23 T.ag23 T.sl23 T.ar23 T.pt23 T.ik23 T.us23 T.ux23 T.ze23 T.sz25 T.ag25 T.sf25 T.ze25 T.fl25_0 T.fl25_1 T.fl25_2 T.bu25 T.sz26 T.ag26 T.sf26 T.ze26 T.sz34 T.ag34 T.sf34 T.ze34 T.bu34 T.sz37 T.ag37 T.sl37 T.ar37 T.sf37 T.sl40 T.ik40 T.us40 T.ux40 T.sz50 T.by50 T.ag50 T.sl50 T.ar50 T.sf50 T.ze50 T.bu50 T.sl68 T.ar68 T.pt68 T.sz80 T.ag80 T.ik80 T.sf82 T.ze82 T.fl82_0 T.fl82_1 T.sz83 T.ag83 T.sl83 T.ik83 T.us83 T.ux83 T.sl91 T.ik117 -- NOREP
section
set_option maxRecDepth 20000
attribute [local go_sem] clPxT
abbrev raC (r : Ra) : List AV := [I r.w, I r.h, .ro 1 (pxC r.p)]
theorem clRas (l : List Ra) : ∀ c ∈ l.map raC, ∀ s ∈ c, Cl s := fun c hc s hs => by
  obtain ⟨r, _, rfl⟩ := List.mem_map.1 hc
  simp at hs
  rcases hs with rfl | rfl | rfl
  · exact .v _
  · exact .v _
  · exact .ro (clPx _)
def fewB (l : List Ra) : Bool := l.all fun r => decide (r.p.length ≤ 70000)
theorem few18 (l : List Ra) (hl : l.length ≤ 1000) : PFun Tryd.prog 18 [.ro 3 (l.map raC)] (Bo (fewB l)) := by
  refine PFun.intro 400 mixed Tryd.func18 (by kernel_rfl) rfl (by first | exact .v _ | (simp [Cl_v, Cl_t, Cl_g, Cl_fn, Cl_rp, Cl_ro]; done) | (simp [Cl_v, Cl_t, Cl_g, Cl_fn, Cl_rp, Cl_ro, or_imp, forall_and]; done) | (split <;> simp [Cl_v, Cl_t, Cl_g, Cl_fn, Cl_rp, Cl_ro])) (Nat.le_of_ble_eq_true rfl) ?_; rw [Tryd.ntmps18, Tryd.results18]
  simp -dsimp -implicitDefEqProofs (maxSteps := 1000000) only [go_sem, ↓reduceIte, Nat.reduceAdd, Nat.reduceSub, Nat.reduceMul, Nat.reduceLT, Nat.reduceLeDiff, Nat.reduceEqDiff, Nat.reduceBEq, Nat.reduceBNe, Int.reduceToNat, Int.reduceLT, Int.reduceLE, Int.reduceNeg, reduceCtorEq, Int.reduceEq, Int.reduceNe, List.length_map]
  refine ⟨{k : Nat // k ≤ l.length ∧ fewB (l.take k) = true}, fun k => ⟨16, tl [(5, .ro 3 (l.map raC)), (6, I l.length), (7, I k.1)], [], 0, .nil⟩, fun k => l.length - k.1,
    ⟨⟨0, by omega, by simp [fewB]⟩, Le.tl0 (Ls := []) (y := none) [] ?_ (by simp -dsimp -implicitDefEqProofs (maxSteps := 1000000) only [go_sem, ↓reduceIte, Nat.reduceAdd, Nat.reduceSub, Nat.reduceMul, Nat.reduceLT, Nat.reduceLeDiff, Nat.reduceEqDiff, Nat.reduceBEq, Nat.reduceBNe, Int.reduceToNat, Int.reduceLT, Int.reduceLE, Int.reduceNeg, reduceCtorEq, Int.reduceEq, Int.reduceNe]) (by simp) (by simp [sg]) trivial⟩, fun k => ?_⟩
  · simp -dsimp -implicitDefEqProofs (maxSteps := 1000000) only [go_sem, ↓reduceIte, Nat.reduceAdd, Nat.reduceSub, Nat.reduceMul, Nat.reduceLT, Nat.reduceLeDiff, Nat.reduceEqDiff, Nat.reduceBEq, Nat.reduceBNe, Int.reduceToNat, Int.reduceLT, Int.reduceLE, Int.reduceNeg, reduceCtorEq, Int.reduceEq, Int.reduceNe]
    exact clRas _
  obtain ⟨k, hk, hf⟩ := k
  simp -dsimp -implicitDefEqProofs (maxSteps := 1000000) only [go_sem, ↓reduceIte, Nat.reduceAdd, Nat.reduceSub, Nat.reduceMul, Nat.reduceLT, Nat.reduceLeDiff, Nat.reduceEqDiff, Nat.reduceBEq, Nat.reduceBNe, Int.reduceToNat, Int.reduceLT, Int.reduceLE, Int.reduceNeg, reduceCtorEq, Int.reduceEq, Int.reduceNe]
  refine ⟨fun hk' => ?_, fun hout => ?_⟩
  · obtain ⟨r, hr⟩ : ∃ x, l[k]? = some x := ⟨_, List.getElem?_eq_getElem (by omega)⟩
    have ek := wrA1 (a := k) (by omega)
    have ht : fewB (l.take (k + 1)) = decide (r.p.length ≤ 70000) := by
      unfold fewB at hf ⊢
      rw [List.take_add_one, hr, List.all_append, hf]; simp
    simp -dsimp -implicitDefEqProofs (maxSteps := 1000000) only [go_sem, ↓reduceIte, Nat.reduceAdd, Nat.reduceSub, Nat.reduceMul, Nat.reduceLT, Nat.reduceLeDiff, Nat.reduceEqDiff, Nat.reduceBEq, Nat.reduceBNe, Int.reduceToNat, Int.reduceLT, Int.reduceLE, Int.reduceNeg, reduceCtorEq, Int.reduceEq, Int.reduceNe, List.getElem?_map, hr, Int.natCast_nonneg, Int.toNat_natCast, pxC_len]
    refine ⟨fun hb => ?_, fun hb => ?_⟩
    · have : fewB l = false := by
        unfold fewB
        rw [List.all_eq_false]
        exact ⟨r, List.mem_of_getElem? hr, by simp; omega⟩
      rw [this]
    · refine ⟨⟨k + 1, by omega, by rw [ht]; simp; omega⟩, by show l.length - (k + 1) < l.length - k; omega, Le.tl (Ls := []) (y := none) [] ?_ (by simp -dsimp -implicitDefEqProofs (maxSteps := 1000000) only [go_sem, ↓reduceIte, Nat.reduceAdd, Nat.reduceSub, Nat.reduceMul, Nat.reduceLT, Nat.reduceLeDiff, Nat.reduceEqDiff, Nat.reduceBEq, Nat.reduceBNe, Int.reduceToNat, Int.reduceLT, Int.reduceLE, Int.reduceNeg, reduceCtorEq, Int.reduceEq, Int.reduceNe]) (by simp) (by simp [sg]) trivial⟩
      simp -dsimp -implicitDefEqProofs (maxSteps := 1000000) only [go_sem, ↓reduceIte, Nat.reduceAdd, Nat.reduceSub, Nat.reduceMul, Nat.reduceLT, Nat.reduceLeDiff, Nat.reduceEqDiff, Nat.reduceBEq, Nat.reduceBNe, Int.reduceToNat, Int.reduceLT, Int.reduceLE, Int.reduceNeg, reduceCtorEq, Int.reduceEq, Int.reduceNe, ek]
      exact clRas _
  · obtain rfl : k = l.length := by omega
    rw [List.take_length] at hf
    rw [hf]
end

section
set_option maxRecDepth 20000
attribute [local go_sem] clPxT clRnT
theorem few1 (r : Ra) : PFun Tryd.prog 18 [.ro 3 [raC r]] (Bo (decide (r.p.length ≤ 70000))) := by
  have := few18 [r] (by simp)
  simpa [fewB] using this
end

section
theorem u8_wf {n : Int} (h : (Lit.int .u8 n).wf = true) : 0 ≤ n ∧ n ≤ 255 := by
  simp [Lit.wf, IntKind.min, IntKind.max] at h
  first | exact h | (simp [IntKind.signed, IntKind.bits] at h; omega)
end

section
set_option maxRecDepth 20000
attribute [local go_sem] clPxT clRnT
abbrev cnC (l : List Int) : List AV := l.map fun x => I x
def cntL (l : List Int) : List Int := (List.range 256).map fun v : Nat => ((l.count (v : Int) : Nat) : Int)
theorem cntL_len (l : List Int) : (cntL l).length = 256 := by simp [cntL]
theorem cnC_len (l : List Int) : (cnC l).length = l.length := by simp [cnC]
theorem cnC_get (l : List Int) (i : Nat) : (cnC l)[i]? = (l[i]?).map fun x => I x := by simp [cnC]
theorem ze37 : zeT Tryd.prog 37 = some (List.replicate 256 (.int .i64 0)) := by kernel_rfl
theorem cnt0 : List.map AV.v (List.replicate 256 (.int .i64 0)) = cnC (cntL []) := by
  rw [List.map_replicate]
  unfold cnC cntL
  rw [List.map_map]
  refine List.ext_getElem? fun i => ?_
  by_cases hi : i < 256
  · rw [List.getElem?_replicate, if_pos hi, List.getElem?_map, List.getElem?_range hi]; rfl
  · rw [List.getElem?_replicate, if_neg hi, List.getElem?_eq_none (by simp; omega)]
theorem cnL (l : List Int) : (cnC (cntL l)).length = 256 := by rw [cnC_len, cntL_len]
theorem cnT (l : List Int) : List.take 256 (cnC (cntL l)) = cnC (cntL l) := List.take_of_length_le (by rw [cnL]; exact Nat.le_refl _)
theorem cnO (l : List Int) : (cnC l).all oneA = true := by
  rw [List.all_eq_true]
  intro x hx
  obtain ⟨y, _, rfl⟩ := List.mem_map.1 hx
  rfl
theorem cnF (H : Nat → Option Blk) (n : Nat) (l : List Int) : List.map (frzA H (n + 1)) (cnC l) = cnC l := by
  rw [List.map_map]; exact List.map_congr_left fun x _ => rfl
theorem cnF3 (H : Nat → Option Blk) (l : List Int) : List.map (frzA H 3) (cnC l) = cnC l := cnF H 2 l
theorem clCn (l : List Int) : ∀ s ∈ cnC l, Cl s := fun s hs => by
  obtain ⟨x, _, rfl⟩ := List.mem_map.1 hs
  exact .v _
theorem cnt_at {l : List Int} {v : Nat} (h : v < 256) : (cntL l)[v]? = some ((l.count (v : Int) : Nat) : Int) := by
  unfold cntL; rw [List.getElem?_map, List.getElem?_range h]; rfl
theorem cnt_snoc {l : List Int} {k v : Nat} (h : l[k]? = some (v : Int)) : (cnC (cntL (l.take k))).set v (I (((l.take k).count (v : Int) : Nat) + 1 : Int)) = cnC (cntL (l.take (k + 1))) := by
  refine List.ext_getElem? fun i => ?_
  by_cases hi : i < 256
  · rw [cnC_get, cnt_at hi, List.take_add_one, h, List.count_append]
    by_cases hv : v = i
    · subst hv
      rw [List.getElem?_set_self (by rw [cnC_len, cntL_len]; exact hi)]
      simp
    · rw [List.getElem?_set_ne hv, cnC_get, cnt_at hi]
      have : ¬ (v : Int) = (i : Int) := by omega
      simp [List.count_cons, this]
  · rw [List.getElem?_eq_none (by rw [List.length_set, cnC_len, cntL_len]; omega), List.getElem?_eq_none (by rw [cnC_len, cntL_len]; omega)]
def countP (r : Ra) : List Int × Int := if vaB r then (cntL r.p, 0) else (cntL [], 2)
abbrev CnA (x : List Int × Int) : AV := .t [.g (cnC x.1), I x.2]
theorem clCnA (x : List Int × Int) : Cl (CnA x) := by simp [Cl_t, Cl_g, Cl_v]
theorem clCn1 (l : List Int) : ∀ c ∈ [cnC l], ∀ s ∈ c, Cl s := fun c hc => by
  rw [List.mem_singleton.1 hc]; exact clCn _
theorem counts21 (r : Ra) (hok : okP r.p) : PFun Tryd.prog 21 [RaA r] (CnA (countP r)) := by
  have hv := valid62 r
  unfold countP
  by_cases hc : vaB r = true
  · rw [if_pos hc]
    obtain ⟨w, h, p, rfl, w1, w2, h1, h2, hlen⟩ := vaR_of hc
    have hN := prodN w2 h2
    show PFun Tryd.prog 21 _ (CnA (cntL p, 0))
    have L0 : (cnC (cntL [])).length = 256 := by rw [cnC_len, cntL_len]
    refine PFun.intro 400 mixed Tryd.func21 (by kernel_rfl) rfl (clCnA _) (Nat.le_of_ble_eq_true rfl) ?_; rw [Tryd.ntmps21, Tryd.results21]
    simp -dsimp -implicitDefEqProofs (maxSteps := 1000000) only [go_sem, ↓reduceIte, Nat.reduceAdd, Nat.reduceSub, Nat.reduceMul, Nat.reduceLT, Nat.reduceLeDiff, Nat.reduceEqDiff, Nat.reduceBEq, Nat.reduceBNe, Int.reduceToNat, Int.reduceLT, Int.reduceLE, Int.reduceNeg, reduceCtorEq, Int.reduceEq, Int.reduceNe, ze37, cnt0, L0]
    refine AtFn.pure0 hv ?_
    simp -dsimp -implicitDefEqProofs (maxSteps := 1000000) only [go_sem, ↓reduceIte, Nat.reduceAdd, Nat.reduceSub, Nat.reduceMul, Nat.reduceLT, Nat.reduceLeDiff, Nat.reduceEqDiff, Nat.reduceBEq, Nat.reduceBNe, Int.reduceToNat, Int.reduceLT, Int.reduceLE, Int.reduceNeg, reduceCtorEq, Int.reduceEq, Int.reduceNe, hc, pxC_len]
    refine ⟨{k : Nat // k ≤ p.length}, fun k => ⟨24, tl [(2, .ptr 1 0 0), (3, I 0), (11, .ro 1 (pxC p)), (12, I p.length), (13, I k.1)], [(1, ⟨256, [cnC (cntL (p.take k.1))]⟩), (0, ⟨3, [[I w, I h, .ro 1 (pxC p)]]⟩)], 2, .nil⟩, fun k => p.length - k.1,
      ⟨⟨0, by omega⟩, Le.tl (Ls := []) (y := none) [] (by simp -dsimp -implicitDefEqProofs (maxSteps := 1000000) only [go_sem, ↓reduceIte, Nat.reduceAdd, Nat.reduceSub, Nat.reduceMul, Nat.reduceLT, Nat.reduceLeDiff, Nat.reduceEqDiff, Nat.reduceBEq, Nat.reduceBNe, Int.reduceToNat, Int.reduceLT, Int.reduceLE, Int.reduceNeg, reduceCtorEq, Int.reduceEq, Int.reduceNe]) ?_ (by simp) (by simp [sg]) trivial⟩, fun k => ?_⟩
    · simp -dsimp -implicitDefEqProofs (maxSteps := 1000000) only [go_sem, ↓reduceIte, Nat.reduceAdd, Nat.reduceSub, Nat.reduceMul, Nat.reduceLT, Nat.reduceLeDiff, Nat.reduceEqDiff, Nat.reduceBEq, Nat.reduceBNe, Int.reduceToNat, Int.reduceLT, Int.reduceLE, Int.reduceNeg, reduceCtorEq, Int.reduceEq, Int.reduceNe]
      exact ⟨renL_cl2 rfl (clCn1 _), renL_F (by simp -dsimp -implicitDefEqProofs (maxSteps := 1000000) only [go_sem, ↓reduceIte, Nat.reduceAdd, Nat.reduceSub, Nat.reduceMul, Nat.reduceLT, Nat.reduceLeDiff, Nat.reduceEqDiff, Nat.reduceBEq, Nat.reduceBNe, Int.reduceToNat, Int.reduceLT, Int.reduceLE, Int.reduceNeg, reduceCtorEq, Int.reduceEq, Int.reduceNe])⟩
    obtain ⟨k, hk⟩ := k
    simp -dsimp -implicitDefEqProofs (maxSteps := 1000000) only [go_sem, ↓reduceIte, Nat.reduceAdd, Nat.reduceSub, Nat.reduceMul, Nat.reduceLT, Nat.reduceLeDiff, Nat.reduceEqDiff, Nat.reduceBEq, Nat.reduceBNe, Int.reduceToNat, Int.reduceLT, Int.reduceLE, Int.reduceNeg, reduceCtorEq, Int.reduceEq, Int.reduceNe]
    refine ⟨fun hk' => ?_, fun hout => ?_⟩
    · have hkl : k < p.length := by omega
      have ek := wrA1 (a := k) (by omega)
      obtain ⟨x, hx⟩ : ∃ x, p[k]? = some x := ⟨_, List.getElem?_eq_getElem hkl⟩
      obtain ⟨hx0, hx1⟩ := hok x (List.mem_of_getElem? hx)
      obtain ⟨x, rfl⟩ := Int.eq_ofNat_of_zero_le hx0
      have hg := cnt_at (l := p.take k) (show x < 256 by omega)
      have hbd : (p.take k).count (x : Int) ≤ k := Nat.le_trans List.count_le_length (by rw [List.length_take]; exact Nat.min_le_left _ _)
      have e1 : wr ((((p.take k).count (x : Int) : Nat) : Int) + 1) = (((p.take k).count (x : Int) : Nat) : Int) + 1 := wr_in (by omega) (by omega)
      have e2 : wr (x : Int) = x := wrN (by omega)
      have l1 : (x : Int) < 256 := by omega
      simp -dsimp -implicitDefEqProofs (maxSteps := 1000000) only [go_sem, ↓reduceIte, Nat.reduceAdd, Nat.reduceSub, Nat.reduceMul, Nat.reduceLT, Nat.reduceLeDiff, Nat.reduceEqDiff, Nat.reduceBEq, Nat.reduceBNe, Int.reduceToNat, Int.reduceLT, Int.reduceLE, Int.reduceNeg, reduceCtorEq, Int.reduceEq, Int.reduceNe, hx, pxC_get, Int.natCast_nonneg, Int.toNat_natCast, Nat.zero_add, hk', e2, l1, Nat.mul_one, cnC_get, hg]
      refine ⟨by rw [cnL]; omega, ⟨k + 1, by omega⟩, by show p.length - (k + 1) < p.length - k; omega, Le.tl (Ls := []) (y := none) [] (by simp -dsimp -implicitDefEqProofs (maxSteps := 1000000) only [go_sem, ↓reduceIte, Nat.reduceAdd, Nat.reduceSub, Nat.reduceMul, Nat.reduceLT, Nat.reduceLeDiff, Nat.reduceEqDiff, Nat.reduceBEq, Nat.reduceBNe, Int.reduceToNat, Int.reduceLT, Int.reduceLE, Int.reduceNeg, reduceCtorEq, Int.reduceEq, Int.reduceNe, ek]) ?_ (by simp) (by simp [sg]) trivial⟩
      simp -dsimp -implicitDefEqProofs (maxSteps := 1000000) only [go_sem, ↓reduceIte, Nat.reduceAdd, Nat.reduceSub, Nat.reduceMul, Nat.reduceLT, Nat.reduceLeDiff, Nat.reduceEqDiff, Nat.reduceBEq, Nat.reduceBNe, Int.reduceToNat, Int.reduceLT, Int.reduceLE, Int.reduceNeg, reduceCtorEq, Int.reduceEq, Int.reduceNe]
      refine ⟨renL_cl2 ?_ (clCn1 _), renL_F (by simp -dsimp -implicitDefEqProofs (maxSteps := 1000000) only [go_sem, ↓reduceIte, Nat.reduceAdd, Nat.reduceSub, Nat.reduceMul, Nat.reduceLT, Nat.reduceLeDiff, Nat.reduceEqDiff, Nat.reduceBEq, Nat.reduceBNe, Int.reduceToNat, Int.reduceLT, Int.reduceLE, Int.reduceNeg, reduceCtorEq, Int.reduceEq, Int.reduceNe])⟩
      rw [if_neg (by rw [cnL]; omega), e1, ← cnt_snoc hx, List.set_eq_take_append_cons_drop, if_pos (by rw [cnL]; omega)]
      simp
    · obtain rfl : k = p.length := by omega
      simp only [cnT, cnL, cnO, if_true, cnF3, List.take_length, true_and, and_true]
      omega
  · have hc' : vaB r = false := by simpa using hc
    rw [if_neg hc]
    obtain ⟨w, h, p⟩ := r
    have L0 : (cnC (cntL [])).length = 256 := by rw [cnC_len, cntL_len]
    refine PFun.intro 400 mixed Tryd.func21 (by kernel_rfl) rfl (clCnA _) (Nat.le_of_ble_eq_true rfl) ?_; rw [Tryd.ntmps21, Tryd.results21]
    simp -dsimp -implicitDefEqProofs (maxSteps := 1000000) only [go_sem, ↓reduceIte, Nat.reduceAdd, Nat.reduceSub, Nat.reduceMul, Nat.reduceLT, Nat.reduceLeDiff, Nat.reduceEqDiff, Nat.reduceBEq, Nat.reduceBNe, Int.reduceToNat, Int.reduceLT, Int.reduceLE, Int.reduceNeg, reduceCtorEq, Int.reduceEq, Int.reduceNe, ze37, cnt0, L0]
    refine AtFn.pure0 hv ?_
    simp -dsimp -implicitDefEqProofs (maxSteps := 1000000) only [go_sem, ↓reduceIte, Nat.reduceAdd, Nat.reduceSub, Nat.reduceMul, Nat.reduceLT, Nat.reduceLeDiff, Nat.reduceEqDiff, Nat.reduceBEq, Nat.reduceBNe, Int.reduceToNat, Int.reduceLT, Int.reduceLE, Int.reduceNeg, reduceCtorEq, Int.reduceEq, Int.reduceNe, hc', L0]
    simp only [cnT, cnL, cnO, if_true, cnF3, true_and, and_true]
    omega
theorem counts22 (r : Ra) (hok : okP r.p) : PFun Tryd.prog 22 [RaA r] (CnA (countP r)) := by
  have hv := valid27 r
  unfold countP
  by_cases hc : vaB r = true
  · rw [if_pos hc]
    obtain ⟨w, h, p, rfl, w1, w2, h1, h2, hlen⟩ := vaR_of hc
    have hN := prodN w2 h2
    show PFun Tryd.prog 22 _ (CnA (cntL p, 0))
    have L0 : (cnC (cntL [])).length = 256 := by rw [cnC_len, cntL_len]
    refine PFun.intro 400 mixed Tryd.func22 (by kernel_rfl) rfl (clCnA _) (Nat.le_of_ble_eq_true rfl) ?_; rw [Tryd.ntmps22, Tryd.results22]
    simp -dsimp -implicitDefEqProofs (maxSteps := 1000000) only [go_sem, ↓reduceIte, Nat.reduceAdd, Nat.reduceSub, Nat.reduceMul, Nat.reduceLT, Nat.reduceLeDiff, Nat.reduceEqDiff, Nat.reduceBEq, Nat.reduceBNe, Int.reduceToNat, Int.reduceLT, Int.reduceLE, Int.reduceNeg, reduceCtorEq, Int.reduceEq, Int.reduceNe, ze37, cnt0, L0]
    refine AtFn.pure0 hv ?_
    simp -dsimp -implicitDefEqProofs (maxSteps := 1000000) only [go_sem, ↓reduceIte, Nat.reduceAdd, Nat.reduceSub, Nat.reduceMul, Nat.reduceLT, Nat.reduceLeDiff, Nat.reduceEqDiff, Nat.reduceBEq, Nat.reduceBNe, Int.reduceToNat, Int.reduceLT, Int.reduceLE, Int.reduceNeg, reduceCtorEq, Int.reduceEq, Int.reduceNe, hc, pxC_len]
    refine ⟨{k : Nat // k ≤ p.length}, fun k => ⟨25, tl [(2, .ptr 1 0 0), (3, I 0), (4, .ptr 2 0 0), (12, .ro 1 (pxC p)), (13, I p.length), (14, I k.1)], [(2, ⟨256, [cnC (cntL (p.take k.1))]⟩), (1, ⟨256, [cnC (cntL [])]⟩), (0, ⟨3, [[I w, I h, .ro 1 (pxC p)]]⟩)], 3, .nil⟩, fun k => p.length - k.1,
      ⟨⟨0, by omega⟩, Le.tl (Ls := []) (y := none) [] (by simp -dsimp -implicitDefEqProofs (maxSteps := 1000000) only [go_sem, ↓reduceIte, Nat.reduceAdd, Nat.reduceSub, Nat.reduceMul, Nat.reduceLT, Nat.reduceLeDiff, Nat.reduceEqDiff, Nat.reduceBEq, Nat.reduceBNe, Int.reduceToNat, Int.reduceLT, Int.reduceLE, Int.reduceNeg, reduceCtorEq, Int.reduceEq, Int.reduceNe]) ?_ (by simp) (by simp [sg]) trivial⟩, fun k => ?_⟩
    · simp -dsimp -implicitDefEqProofs (maxSteps := 1000000) only [go_sem, ↓reduceIte, Nat.reduceAdd, Nat.reduceSub, Nat.reduceMul, Nat.reduceLT, Nat.reduceLeDiff, Nat.reduceEqDiff, Nat.reduceBEq, Nat.reduceBNe, Int.reduceToNat, Int.reduceLT, Int.reduceLE, Int.reduceNeg, reduceCtorEq, Int.reduceEq, Int.reduceNe]
      exact ⟨renL_cl2 rfl (clCn1 _), renL_cl2 rfl (clCn1 _), renL_F (by simp -dsimp -implicitDefEqProofs (maxSteps := 1000000) only [go_sem, ↓reduceIte, Nat.reduceAdd, Nat.reduceSub, Nat.reduceMul, Nat.reduceLT, Nat.reduceLeDiff, Nat.reduceEqDiff, Nat.reduceBEq, Nat.reduceBNe, Int.reduceToNat, Int.reduceLT, Int.reduceLE, Int.reduceNeg, reduceCtorEq, Int.reduceEq, Int.reduceNe])⟩
    obtain ⟨k, hk⟩ := k
    simp -dsimp -implicitDefEqProofs (maxSteps := 1000000) only [go_sem, ↓reduceIte, Nat.reduceAdd, Nat.reduceSub, Nat.reduceMul, Nat.reduceLT, Nat.reduceLeDiff, Nat.reduceEqDiff, Nat.reduceBEq, Nat.reduceBNe, Int.reduceToNat, Int.reduceLT, Int.reduceLE, Int.reduceNeg, reduceCtorEq, Int.reduceEq, Int.reduceNe]
    refine ⟨fun hk' => ?_, fun hout => ?_⟩
    · have hkl : k < p.length := by omega
      have ek := wrA1 (a := k) (by omega)
      obtain ⟨x, hx⟩ : ∃ x, p[k]? = some x := ⟨_, List.getElem?_eq_getElem hkl⟩
      obtain ⟨hx0, hx1⟩ := hok x (List.mem_of_getElem? hx)
      obtain ⟨x, rfl⟩ := Int.eq_ofNat_of_zero_le hx0
      have hg := cnt_at (l := p.take k) (show x < 256 by omega)
      have hbd : (p.take k).count (x : Int) ≤ k := Nat.le_trans List.count_le_length (by rw [List.length_take]; exact Nat.min_le_left _ _)
      have e1 : wr ((((p.take k).count (x : Int) : Nat) : Int) + 1) = (((p.take k).count (x : Int) : Nat) : Int) + 1 := wr_in (by omega) (by omega)
      have e2 : wr (x : Int) = x := wrN (by omega)
      have l1 : (x : Int) < 256 := by omega
      simp -dsimp -implicitDefEqProofs (maxSteps := 1000000) only [go_sem, ↓reduceIte, Nat.reduceAdd, Nat.reduceSub, Nat.reduceMul, Nat.reduceLT, Nat.reduceLeDiff, Nat.reduceEqDiff, Nat.reduceBEq, Nat.reduceBNe, Int.reduceToNat, Int.reduceLT, Int.reduceLE, Int.reduceNeg, reduceCtorEq, Int.reduceEq, Int.reduceNe, hx, pxC_get, Int.natCast_nonneg, Int.toNat_natCast, Nat.zero_add, hk', e2, l1, Nat.mul_one, cnC_get, hg]
      refine ⟨by rw [cnL]; omega, ⟨k + 1, by omega⟩, by show p.length - (k + 1) < p.length - k; omega, Le.tl (Ls := []) (y := none) [] (by simp -dsimp -implicitDefEqProofs (maxSteps := 1000000) only [go_sem, ↓reduceIte, Nat.reduceAdd, Nat.reduceSub, Nat.reduceMul, Nat.reduceLT, Nat.reduceLeDiff, Nat.reduceEqDiff, Nat.reduceBEq, Nat.reduceBNe, Int.reduceToNat, Int.reduceLT, Int.reduceLE, Int.reduceNeg, reduceCtorEq, Int.reduceEq, Int.reduceNe, ek]) ?_ (by simp) (by simp [sg]) trivial⟩
      simp -dsimp -implicitDefEqProofs (maxSteps := 1000000) only [go_sem, ↓reduceIte, Nat.reduceAdd, Nat.reduceSub, Nat.reduceMul, Nat.reduceLT, Nat.reduceLeDiff, Nat.reduceEqDiff, Nat.reduceBEq, Nat.reduceBNe, Int.reduceToNat, Int.reduceLT, Int.reduceLE, Int.reduceNeg, reduceCtorEq, Int.reduceEq, Int.reduceNe]
      refine ⟨renL_cl2 ?_ (clCn1 _), renL_cl2 rfl (clCn1 _), renL_F (by simp -dsimp -implicitDefEqProofs (maxSteps := 1000000) only [go_sem, ↓reduceIte, Nat.reduceAdd, Nat.reduceSub, Nat.reduceMul, Nat.reduceLT, Nat.reduceLeDiff, Nat.reduceEqDiff, Nat.reduceBEq, Nat.reduceBNe, Int.reduceToNat, Int.reduceLT, Int.reduceLE, Int.reduceNeg, reduceCtorEq, Int.reduceEq, Int.reduceNe])⟩
      rw [if_neg (by rw [cnL]; omega), e1, ← cnt_snoc hx, List.set_eq_take_append_cons_drop, if_pos (by rw [cnL]; omega)]
      simp
    · obtain rfl : k = p.length := by omega
      simp only [cnT, cnL, cnO, if_true, cnF3, List.take_length, true_and, and_true]
      omega
  · have hc' : vaB r = false := by simpa using hc
    rw [if_neg hc]
    obtain ⟨w, h, p⟩ := r
    have L0 : (cnC (cntL [])).length = 256 := by rw [cnC_len, cntL_len]
    refine PFun.intro 400 mixed Tryd.func22 (by kernel_rfl) rfl (clCnA _) (Nat.le_of_ble_eq_true rfl) ?_; rw [Tryd.ntmps22, Tryd.results22]
    simp -dsimp -implicitDefEqProofs (maxSteps := 1000000) only [go_sem, ↓reduceIte, Nat.reduceAdd, Nat.reduceSub, Nat.reduceMul, Nat.reduceLT, Nat.reduceLeDiff, Nat.reduceEqDiff, Nat.reduceBEq, Nat.reduceBNe, Int.reduceToNat, Int.reduceLT, Int.reduceLE, Int.reduceNeg, reduceCtorEq, Int.reduceEq, Int.reduceNe, ze37, cnt0, L0]
    refine AtFn.pure0 hv ?_
    simp -dsimp -implicitDefEqProofs (maxSteps := 1000000) only [go_sem, ↓reduceIte, Nat.reduceAdd, Nat.reduceSub, Nat.reduceMul, Nat.reduceLT, Nat.reduceLeDiff, Nat.reduceEqDiff, Nat.reduceBEq, Nat.reduceBNe, Int.reduceToNat, Int.reduceLT, Int.reduceLE, Int.reduceNeg, reduceCtorEq, Int.reduceEq, Int.reduceNe, hc', L0]
    simp only [cnT, cnL, cnO, if_true, cnF3, true_and, and_true]
    omega
end

section
set_option maxRecDepth 20000
attribute [local go_sem] clPxT clRnT
def hexJ (x : Int) : Bool := decide (0 ≤ IntKind.u8.wrap (x.tdiv 16)) && decide (digits[(IntKind.u8.wrap (x.tdiv 16)).toNat]? = some (digB (x / 16))) && decide (0 ≤ x.tmod 16) && decide (digits[(x.tmod 16).toNat]? = some (digB (x % 16)))
theorem hexJ_all : ((List.range 256).all fun n => hexJ (n : Int)) = true := by kernel_rfl
theorem hexJ_ok {x : Int} (h : 0 ≤ x ∧ x ≤ 255) : 0 ≤ IntKind.u8.wrap (x.tdiv 16) ∧ digits[(IntKind.u8.wrap (x.tdiv 16)).toNat]? = some (digB (x / 16)) ∧ 0 ≤ x.tmod 16 ∧ digits[(x.tmod 16).toNat]? = some (digB (x % 16)) := by
  have := List.all_eq_true.1 hexJ_all x.toNat (List.mem_range.2 (by omega))
  rw [show ((x.toNat : Nat) : Int) = x by omega] at this
  simp only [hexJ, Bool.and_eq_true, decide_eq_true_eq] at this
  obtain ⟨⟨⟨a, b⟩, c⟩, d⟩ := this
  exact ⟨a, b, c, d⟩
theorem toI_app2 (T : List UInt8) (a b : UInt8) : pxC (toI T) ++ [[AV.v (Value.int IntKind.u8 (a.toNat : Int))], [AV.v (Value.int IntKind.u8 (b.toNat : Int))]] = pxC (toI (T ++ [a, b])) := by simp [pxC, toI]
theorem toI_app1 (T : List UInt8) : pxC (toI T) ++ [[AV.v (Value.int IntKind.u8 10)]] = pxC (toI (T ++ [10])) := by simp [pxC, toI]
theorem toI_len (T : List UInt8) : (toI T).length = T.length := by simp [toI]
theorem pxT_n {x : Int} (h : ¬ x = 0) : pxT x = [digB (x / 16), digB (x % 16)] := by unfold pxT; rw [if_neg h]
theorem written61 (w h : Nat) (p : List Int) (w1 : 1 ≤ w) (w2 : w ≤ 256) (h1 : 1 ≤ h) (h2 : h ≤ 256) (hlen : p.length = w * h) (hok : okP p) : PFun Tryd.prog 61 [RaA ⟨w, h, p⟩] (Str ((rowsP w p).flatMap rowT)) := by
  have hN := prodN w2 h2
  obtain ⟨R, hR⟩ : ∃ R, R = rowsP w p := ⟨_, rfl⟩
  rw [← hR]
  have hRh : R.length = h := by rw [hR]; exact rowsP_len w1 hlen
  have hRg : ∀ j, j < h → R[j]? = some ((p.drop ((h - 1 - j) * w)).take w) := fun j hj => by rw [hR]; exact rowsP_get w1 hlen hj
  refine PFun.intro 400 mixed Tryd.func61 (by kernel_rfl) rfl (by first | exact .v _ | (simp [Cl_v, Cl_t, Cl_g, Cl_fn, Cl_rp, Cl_ro]; done) | (simp [Cl_v, Cl_t, Cl_g, Cl_fn, Cl_rp, Cl_ro, or_imp, forall_and]; done) | (split <;> simp [Cl_v, Cl_t, Cl_g, Cl_fn, Cl_rp, Cl_ro])) (Nat.le_of_ble_eq_true rfl) ?_; rw [Tryd.ntmps61, Tryd.results61]
  simp -dsimp -implicitDefEqProofs (maxSteps := 1000000) only [go_sem, ↓reduceIte, Nat.reduceAdd, Nat.reduceSub, Nat.reduceMul, Nat.reduceLT, Nat.reduceLeDiff, Nat.reduceEqDiff, Nat.reduceBEq, Nat.reduceBNe, Int.reduceToNat, Int.reduceLT, Int.reduceLE, Int.reduceNeg, reduceCtorEq, Int.reduceEq, Int.reduceNe]
  refine ⟨{k : Nat // k ≤ h}, fun k => ⟨56, tl [(1, .ptr 0 0 0), (3, .sl 1 0 ((R.take k.1).flatMap rowT).length), (9, I h), (10, I k.1)], [(0, ⟨3, [[I w, I h, .ro 1 (pxC p)]]⟩), (1, ⟨1, pxC (toI ((R.take k.1).flatMap rowT))⟩)], 2, .nil⟩, fun k => h - k.1,
    ⟨⟨0, by omega⟩, Le.tl0 (Ls := []) (y := none) [] ?_ ?_ (by simp) (by simp [sg]) trivial⟩, fun k => ?_⟩
  · simp -dsimp -implicitDefEqProofs (maxSteps := 1000000) only [go_sem, ↓reduceIte, Nat.reduceAdd, Nat.reduceSub, Nat.reduceMul, Nat.reduceLT, Nat.reduceLeDiff, Nat.reduceEqDiff, Nat.reduceBEq, Nat.reduceBNe, Int.reduceToNat, Int.reduceLT, Int.reduceLE, Int.reduceNeg, reduceCtorEq, Int.reduceEq, Int.reduceNe, List.take_zero, List.flatMap_nil]
  · simp -dsimp -implicitDefEqProofs (maxSteps := 1000000) only [go_sem, ↓reduceIte, Nat.reduceAdd, Nat.reduceSub, Nat.reduceMul, Nat.reduceLT, Nat.reduceLeDiff, Nat.reduceEqDiff, Nat.reduceBEq, Nat.reduceBNe, Int.reduceToNat, Int.reduceLT, Int.reduceLE, Int.reduceNeg, reduceCtorEq, Int.reduceEq, Int.reduceNe, List.take_zero, List.flatMap_nil]
    exact renL_F (by simp -dsimp -implicitDefEqProofs (maxSteps := 1000000) only [go_sem, ↓reduceIte, Nat.reduceAdd, Nat.reduceSub, Nat.reduceMul, Nat.reduceLT, Nat.reduceLeDiff, Nat.reduceEqDiff, Nat.reduceBEq, Nat.reduceBNe, Int.reduceToNat, Int.reduceLT, Int.reduceLE, Int.reduceNeg, reduceCtorEq, Int.reduceEq, Int.reduceNe])
  obtain ⟨k, hk⟩ := k
  simp -dsimp -implicitDefEqProofs (maxSteps := 1000000) only [go_sem, ↓reduceIte, Nat.reduceAdd, Nat.reduceSub, Nat.reduceMul, Nat.reduceLT, Nat.reduceLeDiff, Nat.reduceEqDiff, Nat.reduceBEq, Nat.reduceBNe, Int.reduceToNat, Int.reduceLT, Int.reduceLE, Int.reduceNeg, reduceCtorEq, Int.reduceEq, Int.reduceNe]
  refine ⟨fun hk' => ?_, fun hout => ?_⟩
  · have hkl : k < h := by omega
    have ek := wrA1 (a := k) (by omega)
    obtain ⟨j, hj⟩ : ∃ j, j = h - 1 - k := ⟨_, rfl⟩
    have hjw : j * w + w ≤ w * h := by
      have : (j + 1) * w ≤ h * w := Nat.mul_le_mul_right _ (by omega)
      rw [Nat.succ_mul, Nat.mul_comm h w] at this; exact this
    obtain ⟨row, hrow⟩ : ∃ row, row = (p.drop (j * w)).take w := ⟨_, rfl⟩
    have gk := hRg k hkl
    rw [← hj, ← hrow] at gk
    have hrl : row.length = w := by rw [hrow, List.length_take, List.length_drop, hlen]; omega
    have hrp : List.drop (j * w) (List.take ((j + 1) * w) (pxC p)) = pxC row := by
      rw [hrow]; unfold pxC
      rw [← List.map_take, ← List.map_drop, List.drop_take, Nat.succ_mul, show j * w + w - j * w = w by omega]
    have hokr : okP row := fun x hx => by
      rw [hrow] at hx
      exact hok x (List.mem_of_mem_drop (List.mem_of_mem_take hx))
    have s1 := wrS1 (a := h) (by omega) (by omega)
    have s2 : wr (((h - 1 : Nat) : Int) - (k : Int)) = (j : Int) := by rw [wr_in] <;> omega
    have b1 := wrM (a := j) (b := w) (by omega)
    have b2 := wrA1 (a := j) (by omega)
    have b3 := wrM (a := j + 1) (b := w) (by rw [Nat.succ_mul]; omega)
    have c1 : j * w ≤ (j + 1) * w := by rw [Nat.succ_mul]; omega
    have c2 : (j + 1) * w ≤ p.length := by rw [Nat.succ_mul, hlen]; exact hjw
    obtain ⟨T0, hT0⟩ : ∃ T0, T0 = (R.take k).flatMap rowT := ⟨_, rfl⟩
    rw [← hT0]
    have e1 : (R.take (k + 1)).flatMap rowT = T0 ++ row.flatMap pxT ++ [10] := by
      rw [List.take_add_one, gk, List.flatMap_append, ← hT0]; simp [rowT]
    have hT0l : T0.length ≤ 131328 := by
      rw [hT0, flat_len (n := 2 * w + 1) (fun r hr => ?_), List.length_take]
      · have : min k R.length * (2 * w + 1) ≤ 256 * 513 := Nat.mul_le_mul (by omega) (by omega)
        omega
      · obtain ⟨i, hi⟩ := List.getElem?_of_mem (List.mem_of_mem_take hr)
        have hil : i < R.length := (List.getElem?_eq_some_iff.1 hi).1
        rw [hRg i (by omega)] at hi
        rw [rowT_len, ← Option.some.inj hi, row_len hlen (by omega)]
    simp -dsimp -implicitDefEqProofs (maxSteps := 1000000) only [go_sem, ↓reduceIte, Nat.reduceAdd, Nat.reduceSub, Nat.reduceMul, Nat.reduceLT, Nat.reduceLeDiff, Nat.reduceEqDiff, Nat.reduceBEq, Nat.reduceBNe, Int.reduceToNat, Int.reduceLT, Int.reduceLE, Int.reduceNeg, reduceCtorEq, Int.reduceEq, Int.reduceNe, s1, s2, b1, b2, b3, c1, c2, pxC_len, hrp, hrl, Int.natCast_nonneg, Int.toNat_natCast]
    refine ⟨{i : Nat // i ≤ w}, fun i => ⟨56, tl [(1, .ptr 0 0 0), (3, .sl 1 0 (T0 ++ (row.take i.1).flatMap pxT).length), (9, I h), (10, I k), (29, .ro 1 (pxC row)), (30, I w), (31, I i.1)], [(0, ⟨3, [[I w, I h, .ro 1 (pxC p)]]⟩), (1, ⟨1, pxC (toI (T0 ++ (row.take i.1).flatMap pxT))⟩)], 2, .nil⟩, fun i => w - i.1,
      ⟨⟨0, by omega⟩, Le.tl (Ls := []) (y := none) [] ?_ ?_ (by simp) (by simp [sg]) trivial⟩, fun i => ?_⟩
    · simp -dsimp -implicitDefEqProofs (maxSteps := 1000000) only [go_sem, ↓reduceIte, Nat.reduceAdd, Nat.reduceSub, Nat.reduceMul, Nat.reduceLT, Nat.reduceLeDiff, Nat.reduceEqDiff, Nat.reduceBEq, Nat.reduceBNe, Int.reduceToNat, Int.reduceLT, Int.reduceLE, Int.reduceNeg, reduceCtorEq, Int.reduceEq, Int.reduceNe, List.take_zero, List.flatMap_nil, List.append_nil]
    · simp -dsimp -implicitDefEqProofs (maxSteps := 1000000) only [go_sem, ↓reduceIte, Nat.reduceAdd, Nat.reduceSub, Nat.reduceMul, Nat.reduceLT, Nat.reduceLeDiff, Nat.reduceEqDiff, Nat.reduceBEq, Nat.reduceBNe, Int.reduceToNat, Int.reduceLT, Int.reduceLE, Int.reduceNeg, reduceCtorEq, Int.reduceEq, Int.reduceNe, List.take_zero, List.flatMap_nil, List.append_nil]
      exact ⟨renL_F (by simp -dsimp -implicitDefEqProofs (maxSteps := 1000000) only [go_sem, ↓reduceIte, Nat.reduceAdd, Nat.reduceSub, Nat.reduceMul, Nat.reduceLT, Nat.reduceLeDiff, Nat.reduceEqDiff, Nat.reduceBEq, Nat.reduceBNe, Int.reduceToNat, Int.reduceLT, Int.reduceLE, Int.reduceNeg, reduceCtorEq, Int.reduceEq, Int.reduceNe]), renL_cl2 rfl (clPx _)⟩
    obtain ⟨i, hi⟩ := i
    obtain ⟨T, hT⟩ : ∃ T, T = T0 ++ (row.take i).flatMap pxT := ⟨_, rfl⟩
    simp only
    rw [← hT]
    have hTl : T.length ≤ 131328 + 512 := by
      rw [hT, List.length_append, flat_len (fun x _ => pxT_len x), List.length_take]
      omega
    simp -dsimp -implicitDefEqProofs (maxSteps := 1000000) only [go_sem, ↓reduceIte, Nat.reduceAdd, Nat.reduceSub, Nat.reduceMul, Nat.reduceLT, Nat.reduceLeDiff, Nat.reduceEqDiff, Nat.reduceBEq, Nat.reduceBNe, Int.reduceToNat, Int.reduceLT, Int.reduceLE, Int.reduceNeg, reduceCtorEq, Int.reduceEq, Int.reduceNe, pxC_len, hrl]
    refine ⟨fun hi' => ?_, fun hout => ?_⟩
    · have hil : i < w := by omega
      have ei := wrA1 (a := i) (by omega)
      obtain ⟨x, hx⟩ : ∃ x, row[i]? = some x := ⟨_, List.getElem?_eq_getElem (by omega)⟩
      have hxb := hokr x (List.mem_of_getElem? hx)
      have e2 : T0 ++ (row.take (i + 1)).flatMap pxT = T ++ pxT x := by
        rw [List.take_add_one, hx, List.flatMap_append, hT]; simp
      by_cases hx0 : x = 0
      · simp -dsimp -implicitDefEqProofs (maxSteps := 1000000) only [go_sem, ↓reduceIte, Nat.reduceAdd, Nat.reduceSub, Nat.reduceMul, Nat.reduceLT, Nat.reduceLeDiff, Nat.reduceEqDiff, Nat.reduceBEq, Nat.reduceBNe, Int.reduceToNat, Int.reduceLT, Int.reduceLE, Int.reduceNeg, reduceCtorEq, Int.reduceEq, Int.reduceNe, hx, hx0, hi', pxC_get, Int.natCast_nonneg, Int.toNat_natCast, Nat.zero_add]
        have hp2 : pxC (toI T) ++ [[AV.v (Value.int IntKind.u8 46)], [AV.v (Value.int IntKind.u8 46)]] = pxC (toI (T ++ pxT x)) := by rw [hx0]; exact toI_app2 T 46 46
        refine AtOp.appE _ _ _ _ _ _ _ _ _ _ _ _ _ _ (by kernel_rfl) ?_
        simp -dsimp -implicitDefEqProofs (maxSteps := 1000000) only [go_sem, ↓reduceIte, Nat.reduceAdd, Nat.reduceSub, Nat.reduceMul, Nat.reduceLT, Nat.reduceLeDiff, Nat.reduceEqDiff, Nat.reduceBEq, Nat.reduceBNe, Int.reduceToNat, Int.reduceLT, Int.reduceLE, Int.reduceNeg, reduceCtorEq, Int.reduceEq, Int.reduceNe, takePx _ _ (toI_len T), hp2, pxC_len, toI_len, Nat.zero_add]
        refine ⟨Nat.le_refl _, by omega, ⟨i + 1, by omega⟩, by show w - (i + 1) < w - i; omega, Le.tl (Ls := []) (y := none) [(1, 3)] ?_ ?_ (by simp) (by simp [sg]) trivial⟩
        · simp -dsimp -implicitDefEqProofs (maxSteps := 1000000) only [go_sem, ↓reduceIte, Nat.reduceAdd, Nat.reduceSub, Nat.reduceMul, Nat.reduceLT, Nat.reduceLeDiff, Nat.reduceEqDiff, Nat.reduceBEq, Nat.reduceBNe, Int.reduceToNat, Int.reduceLT, Int.reduceLE, Int.reduceNeg, reduceCtorEq, Int.reduceEq, Int.reduceNe, ei, e2]
        · simp -dsimp -implicitDefEqProofs (maxSteps := 1000000) only [go_sem, ↓reduceIte, Nat.reduceAdd, Nat.reduceSub, Nat.reduceMul, Nat.reduceLT, Nat.reduceLeDiff, Nat.reduceEqDiff, Nat.reduceBEq, Nat.reduceBNe, Int.reduceToNat, Int.reduceLT, Int.reduceLE, Int.reduceNeg, reduceCtorEq, Int.reduceEq, Int.reduceNe, e2]
          exact ⟨renL_F (by simp -dsimp -implicitDefEqProofs (maxSteps := 1000000) only [go_sem, ↓reduceIte, Nat.reduceAdd, Nat.reduceSub, Nat.reduceMul, Nat.reduceLT, Nat.reduceLeDiff, Nat.reduceEqDiff, Nat.reduceBEq, Nat.reduceBNe, Int.reduceToNat, Int.reduceLT, Int.reduceLE, Int.reduceNeg, reduceCtorEq, Int.reduceEq, Int.reduceNe]), renL_cl2 rfl (clPx _)⟩
      · simp -dsimp -implicitDefEqProofs (maxSteps := 1000000) only [go_sem, ↓reduceIte, Nat.reduceAdd, Nat.reduceSub, Nat.reduceMul, Nat.reduceLT, Nat.reduceLeDiff, Nat.reduceEqDiff, Nat.reduceBEq, Nat.reduceBNe, Int.reduceToNat, Int.reduceLT, Int.reduceLE, Int.reduceNeg, reduceCtorEq, Int.reduceEq, Int.reduceNe, hx, hx0, hi', pxC_get, Int.natCast_nonneg, Int.toNat_natCast, Nat.zero_add]
        have hp2 : pxC (toI T) ++ [[AV.v (Value.int IntKind.u8 ((digB (x / 16)).toNat : Int))], [AV.v (Value.int IntKind.u8 ((digB (x % 16)).toNat : Int))]] = pxC (toI (T ++ pxT x)) := by rw [pxT_n hx0]; exact toI_app2 T _ _
        obtain ⟨q1, q2, q3, q4⟩ := hexJ_ok hxb
        refine AtCode.draw 8 [([], []), ([], []), ([1], []), ([1, 2], []), ([], []), ([4], []), ([4, 5], []), ([1, 2, 3, 4, 5, 6], []), ([0, 1, 2, 3, 4, 5, 6, 7], []), ([0, 1, 2, 3, 4, 5, 6, 7, 8], [])] (by kernel_rfl) ?_
        simp -dsimp -implicitDefEqProofs (maxSteps := 1000000) only [go_sem, ↓reduceIte, Nat.reduceAdd, Nat.reduceSub, Nat.reduceMul, Nat.reduceLT, Nat.reduceLeDiff, Nat.reduceEqDiff, Nat.reduceBEq, Nat.reduceBNe, Int.reduceToNat, Int.reduceLT, Int.reduceLE, Int.reduceNeg, reduceCtorEq, Int.reduceEq, Int.reduceNe, q2, q4]
        refine ⟨q1, q3, ?_⟩
        refine AtOp.appE _ _ _ _ _ _ _ _ _ _ _ _ _ _ (by kernel_rfl) ?_
        simp -dsimp -implicitDefEqProofs (maxSteps := 1000000) only [go_sem, ↓reduceIte, Nat.reduceAdd, Nat.reduceSub, Nat.reduceMul, Nat.reduceLT, Nat.reduceLeDiff, Nat.reduceEqDiff, Nat.reduceBEq, Nat.reduceBNe, Int.reduceToNat, Int.reduceLT, Int.reduceLE, Int.reduceNeg, reduceCtorEq, Int.reduceEq, Int.reduceNe, takePx _ _ (toI_len T), hp2, pxC_len, toI_len, Nat.zero_add]
        refine ⟨Nat.le_refl _, by omega, ⟨i + 1, by omega⟩, by show w - (i + 1) < w - i; omega, Le.tl (Ls := []) (y := none) [(1, 10)] ?_ ?_ (by simp) (by simp [sg]) trivial⟩
        · simp -dsimp -implicitDefEqProofs (maxSteps := 1000000) only [go_sem, ↓reduceIte, Nat.reduceAdd, Nat.reduceSub, Nat.reduceMul, Nat.reduceLT, Nat.reduceLeDiff, Nat.reduceEqDiff, Nat.reduceBEq, Nat.reduceBNe, Int.reduceToNat, Int.reduceLT, Int.reduceLE, Int.reduceNeg, reduceCtorEq, Int.reduceEq, Int.reduceNe, ei, e2]
        · simp -dsimp -implicitDefEqProofs (maxSteps := 1000000) only [go_sem, ↓reduceIte, Nat.reduceAdd, Nat.reduceSub, Nat.reduceMul, Nat.reduceLT, Nat.reduceLeDiff, Nat.reduceEqDiff, Nat.reduceBEq, Nat.reduceBNe, Int.reduceToNat, Int.reduceLT, Int.reduceLE, Int.reduceNeg, reduceCtorEq, Int.reduceEq, Int.reduceNe, e2]
          exact ⟨renL_F (by simp -dsimp -implicitDefEqProofs (maxSteps := 1000000) only [go_sem, ↓reduceIte, Nat.reduceAdd, Nat.reduceSub, Nat.reduceMul, Nat.reduceLT, Nat.reduceLeDiff, Nat.reduceEqDiff, Nat.reduceBEq, Nat.reduceBNe, Int.reduceToNat, Int.reduceLT, Int.reduceLE, Int.reduceNeg, reduceCtorEq, Int.reduceEq, Int.reduceNe]), renL_cl2 rfl (clPx _)⟩
    · obtain rfl : i = w := by omega
      have hp2 := toI_app1 T
      have e3 : (R.take (k + 1)).flatMap rowT = T ++ [10] := by rw [e1, hT, ← hrl, List.take_length]
      refine AtOp.appE _ _ _ _ _ _ _ _ _ _ _ _ _ _ (by kernel_rfl) ?_
      simp -dsimp -implicitDefEqProofs (maxSteps := 1000000) only [go_sem, ↓reduceIte, Nat.reduceAdd, Nat.reduceSub, Nat.reduceMul, Nat.reduceLT, Nat.reduceLeDiff, Nat.reduceEqDiff, Nat.reduceBEq, Nat.reduceBNe, Int.reduceToNat, Int.reduceLT, Int.reduceLE, Int.reduceNeg, reduceCtorEq, Int.reduceEq, Int.reduceNe, takePx _ _ (toI_len T), hp2, pxC_len, toI_len, Nat.zero_add]
      refine ⟨Nat.le_refl _, by omega, ⟨k + 1, by omega⟩, by show h - (k + 1) < h - k; omega, Le.tl (Ls := []) (y := none) [(1, 3)] ?_ ?_ (by simp) (by simp [sg]) trivial⟩
      · simp -dsimp -implicitDefEqProofs (maxSteps := 1000000) only [go_sem, ↓reduceIte, Nat.reduceAdd, Nat.reduceSub, Nat.reduceMul, Nat.reduceLT, Nat.reduceLeDiff, Nat.reduceEqDiff, Nat.reduceBEq, Nat.reduceBNe, Int.reduceToNat, Int.reduceLT, Int.reduceLE, Int.reduceNeg, reduceCtorEq, Int.reduceEq, Int.reduceNe, ek, e3]
      · simp -dsimp -implicitDefEqProofs (maxSteps := 1000000) only [go_sem, ↓reduceIte, Nat.reduceAdd, Nat.reduceSub, Nat.reduceMul, Nat.reduceLT, Nat.reduceLeDiff, Nat.reduceEqDiff, Nat.reduceBEq, Nat.reduceBNe, Int.reduceToNat, Int.reduceLT, Int.reduceLE, Int.reduceNeg, reduceCtorEq, Int.reduceEq, Int.reduceNe, e3]
        exact ⟨renL_F (by simp -dsimp -implicitDefEqProofs (maxSteps := 1000000) only [go_sem, ↓reduceIte, Nat.reduceAdd, Nat.reduceSub, Nat.reduceMul, Nat.reduceLT, Nat.reduceLeDiff, Nat.reduceEqDiff, Nat.reduceBEq, Nat.reduceBNe, Int.reduceToNat, Int.reduceLT, Int.reduceLE, Int.reduceNeg, reduceCtorEq, Int.reduceEq, Int.reduceNe]), renL_cl2 rfl (clPx _)⟩
  · obtain rfl : k = h := by omega
    rw [show R.take k = R by rw [← hRh, List.take_length]]
    refine AtOp.b2s (e := 5) (l := toI (R.flatMap rowT)) rfl (by kernel_rfl) (by kernel_rfl) (by kernel_rfl) (by simp -dsimp -implicitDefEqProofs (maxSteps := 1000000) only [go_sem, ↓reduceIte, Nat.reduceAdd, Nat.reduceSub, Nat.reduceMul, Nat.reduceLT, Nat.reduceLeDiff, Nat.reduceEqDiff, Nat.reduceBEq, Nat.reduceBNe, Int.reduceToNat, Int.reduceLT, Int.reduceLE, Int.reduceNeg, reduceCtorEq, Int.reduceEq, Int.reduceNe]) ⟨rfl, by rw [pxC_len, toI_len]; omega, takePx _ _ (toI_len _)⟩ ?_
    rw [ofI_toI]
    simp -dsimp -implicitDefEqProofs (maxSteps := 1000000) only [go_sem, ↓reduceIte, Nat.reduceAdd, Nat.reduceSub, Nat.reduceMul, Nat.reduceLT, Nat.reduceLeDiff, Nat.reduceEqDiff, Nat.reduceBEq, Nat.reduceBNe, Int.reduceToNat, Int.reduceLT, Int.reduceLE, Int.reduceNeg, reduceCtorEq, Int.reduceEq, Int.reduceNe]
theorem text23 (r : Ra) (hok : okP r.p) : PFun Tryd.prog 23 [RaA r] (.t [Str (textP r).1, I (textP r).2]) := by
  have hv := valid27 r
  unfold textP
  by_cases hc : vaB r = true
  · rw [if_pos hc]
    obtain ⟨w, h, p, rfl, w1, w2, h1, h2, hlen⟩ := vaR_of hc
    show PFun Tryd.prog 23 [RaA ⟨w, h, p⟩] (.t [Str ((rowsP w p).flatMap rowT), I 0])
    refine PFun.intro 400 mixed Tryd.func23 (by kernel_rfl) rfl (by first | exact .v _ | (simp [Cl_v, Cl_t, Cl_g, Cl_fn, Cl_rp, Cl_ro]; done) | (simp [Cl_v, Cl_t, Cl_g, Cl_fn, Cl_rp, Cl_ro, or_imp, forall_and]; done) | (split <;> simp [Cl_v, Cl_t, Cl_g, Cl_fn, Cl_rp, Cl_ro])) (Nat.le_of_ble_eq_true rfl) ?_; rw [Tryd.ntmps23, Tryd.results23]
    simp -dsimp -implicitDefEqProofs (maxSteps := 1000000) only [go_sem, ↓reduceIte, Nat.reduceAdd, Nat.reduceSub, Nat.reduceMul, Nat.reduceLT, Nat.reduceLeDiff, Nat.reduceEqDiff, Nat.reduceBEq, Nat.reduceBNe, Int.reduceToNat, Int.reduceLT, Int.reduceLE, Int.reduceNeg, reduceCtorEq, Int.reduceEq, Int.reduceNe]
    refine AtFn.pure0 hv ?_
    simp -dsimp -implicitDefEqProofs (maxSteps := 1000000) only [go_sem, ↓reduceIte, Nat.reduceAdd, Nat.reduceSub, Nat.reduceMul, Nat.reduceLT, Nat.reduceLeDiff, Nat.reduceEqDiff, Nat.reduceBEq, Nat.reduceBNe, Int.reduceToNat, Int.reduceLT, Int.reduceLE, Int.reduceNeg, reduceCtorEq, Int.reduceEq, Int.reduceNe, hc]
    refine AtFn.pure0 (written61 w h p w1 w2 h1 h2 hlen hok) ?_
    simp -dsimp -implicitDefEqProofs (maxSteps := 1000000) only [go_sem, ↓reduceIte, Nat.reduceAdd, Nat.reduceSub, Nat.reduceMul, Nat.reduceLT, Nat.reduceLeDiff, Nat.reduceEqDiff, Nat.reduceBEq, Nat.reduceBNe, Int.reduceToNat, Int.reduceLT, Int.reduceLE, Int.reduceNeg, reduceCtorEq, Int.reduceEq, Int.reduceNe]
  · have hc' : vaB r = false := by simpa using hc
    rw [if_neg hc]
    obtain ⟨w, h, p⟩ := r
    refine PFun.intro 400 mixed Tryd.func23 (by kernel_rfl) rfl (by first | exact .v _ | (simp [Cl_v, Cl_t, Cl_g, Cl_fn, Cl_rp, Cl_ro]; done) | (simp [Cl_v, Cl_t, Cl_g, Cl_fn, Cl_rp, Cl_ro, or_imp, forall_and]; done) | (split <;> simp [Cl_v, Cl_t, Cl_g, Cl_fn, Cl_rp, Cl_ro])) (Nat.le_of_ble_eq_true rfl) ?_; rw [Tryd.ntmps23, Tryd.results23]
    simp -dsimp -implicitDefEqProofs (maxSteps := 1000000) only [go_sem, ↓reduceIte, Nat.reduceAdd, Nat.reduceSub, Nat.reduceMul, Nat.reduceLT, Nat.reduceLeDiff, Nat.reduceEqDiff, Nat.reduceBEq, Nat.reduceBNe, Int.reduceToNat, Int.reduceLT, Int.reduceLE, Int.reduceNeg, reduceCtorEq, Int.reduceEq, Int.reduceNe]
    refine AtFn.pure0 hv ?_
    simp -dsimp -implicitDefEqProofs (maxSteps := 1000000) only [go_sem, ↓reduceIte, Nat.reduceAdd, Nat.reduceSub, Nat.reduceMul, Nat.reduceLT, Nat.reduceLeDiff, Nat.reduceEqDiff, Nat.reduceBEq, Nat.reduceBNe, Int.reduceToNat, Int.reduceLT, Int.reduceLE, Int.reduceNeg, reduceCtorEq, Int.reduceEq, Int.reduceNe, hc']
end

section
set_option maxRecDepth 20000
attribute [local go_sem] clPxT clRnT eqk34' eqk50'
theorem eqk37 : EqK Tryd.prog 37 256 := by
  obtain ⟨i, hi⟩ := info3
  exact EqK.arr (by kernel_rfl) (by kernel_rfl) hi (by kernel_rfl) (by kernel_rfl) agg3
theorem same26 (l : List (Int × Int)) (hl : l.length ≤ 4294967296) : PFun Tryd.prog 26 [.ro 2 (l.map rnC), .ro 2 (l.map rnC)] (Bo true) := by
  refine PFun.intro 400 mixed Tryd.func26 (by kernel_rfl) rfl (by first | exact .v _ | (simp [Cl_v, Cl_t, Cl_g, Cl_fn, Cl_rp, Cl_ro]; done) | (simp [Cl_v, Cl_t, Cl_g, Cl_fn, Cl_rp, Cl_ro, or_imp, forall_and]; done) | (split <;> simp [Cl_v, Cl_t, Cl_g, Cl_fn, Cl_rp, Cl_ro])) (Nat.le_of_ble_eq_true rfl) ?_; rw [Tryd.ntmps26, Tryd.results26]
  simp -dsimp -implicitDefEqProofs (maxSteps := 1000000) only [go_sem, ↓reduceIte, Nat.reduceAdd, Nat.reduceSub, Nat.reduceMul, Nat.reduceLT, Nat.reduceLeDiff, Nat.reduceEqDiff, Nat.reduceBEq, Nat.reduceBNe, Int.reduceToNat, Int.reduceLT, Int.reduceLE, Int.reduceNeg, reduceCtorEq, Int.reduceEq, Int.reduceNe, List.length_map]
  refine ⟨{k : Nat // k ≤ l.length}, fun k => ⟨26, tl [(0, .ro 2 (l.map rnC)), (1, .ro 2 (l.map rnC)), (12, I l.length), (13, I k.1)], [], 0, .nil⟩, fun k => l.length - k.1,
    ⟨⟨0, by omega⟩, Le.tl0 (Ls := []) (y := none) [] ?_ (by simp -dsimp -implicitDefEqProofs (maxSteps := 1000000) only [go_sem, ↓reduceIte, Nat.reduceAdd, Nat.reduceSub, Nat.reduceMul, Nat.reduceLT, Nat.reduceLeDiff, Nat.reduceEqDiff, Nat.reduceBEq, Nat.reduceBNe, Int.reduceToNat, Int.reduceLT, Int.reduceLE, Int.reduceNeg, reduceCtorEq, Int.reduceEq, Int.reduceNe]) (by simp) (by simp [sg]) trivial⟩, fun k => ?_⟩
  · simp -dsimp -implicitDefEqProofs (maxSteps := 1000000) only [go_sem, ↓reduceIte, Nat.reduceAdd, Nat.reduceSub, Nat.reduceMul, Nat.reduceLT, Nat.reduceLeDiff, Nat.reduceEqDiff, Nat.reduceBEq, Nat.reduceBNe, Int.reduceToNat, Int.reduceLT, Int.reduceLE, Int.reduceNeg, reduceCtorEq, Int.reduceEq, Int.reduceNe]
  obtain ⟨k, hk⟩ := k
  simp -dsimp -implicitDefEqProofs (maxSteps := 1000000) only [go_sem, ↓reduceIte, Nat.reduceAdd, Nat.reduceSub, Nat.reduceMul, Nat.reduceLT, Nat.reduceLeDiff, Nat.reduceEqDiff, Nat.reduceBEq, Nat.reduceBNe, Int.reduceToNat, Int.reduceLT, Int.reduceLE, Int.reduceNeg, reduceCtorEq, Int.reduceEq, Int.reduceNe]
  intro hk'
  obtain ⟨⟨s1, s2⟩, hr⟩ : ∃ x, l[k]? = some x := ⟨_, List.getElem?_eq_getElem (by omega)⟩
  have ek := wrA1 (a := k) (by omega)
  refine AtCode.draw 9 [([], []), ([], []), ([0, 1], []), ([0, 1, 2], []), ([], []), ([], []), ([4, 5], []), ([4, 5, 6], []), ([0, 1, 2, 3, 4, 5, 6, 7], [])] (by kernel_rfl) ?_
  simp -dsimp -implicitDefEqProofs (maxSteps := 1000000) only [go_sem, ↓reduceIte, Nat.reduceAdd, Nat.reduceSub, Nat.reduceMul, Nat.reduceLT, Nat.reduceLeDiff, Nat.reduceEqDiff, Nat.reduceBEq, Nat.reduceBNe, Int.reduceToNat, Int.reduceLT, Int.reduceLE, Int.reduceNeg, reduceCtorEq, Int.reduceEq, Int.reduceNe, List.getElem?_map, hr, Int.natCast_nonneg, Int.toNat_natCast]
  refine ⟨⟨k + 1, by omega⟩, by show l.length - (k + 1) < l.length - k; omega, Le.tl (Ls := []) (y := none) [] ?_ (by simp -dsimp -implicitDefEqProofs (maxSteps := 1000000) only [go_sem, ↓reduceIte, Nat.reduceAdd, Nat.reduceSub, Nat.reduceMul, Nat.reduceLT, Nat.reduceLeDiff, Nat.reduceEqDiff, Nat.reduceBEq, Nat.reduceBNe, Int.reduceToNat, Int.reduceLT, Int.reduceLE, Int.reduceNeg, reduceCtorEq, Int.reduceEq, Int.reduceNe]) (by simp) (by simp [sg]) trivial⟩
  simp -dsimp -implicitDefEqProofs (maxSteps := 1000000) only [go_sem, ↓reduceIte, Nat.reduceAdd, Nat.reduceSub, Nat.reduceMul, Nat.reduceLT, Nat.reduceLeDiff, Nat.reduceEqDiff, Nat.reduceBEq, Nat.reduceBNe, Int.reduceToNat, Int.reduceLT, Int.reduceLE, Int.reduceNeg, reduceCtorEq, Int.reduceEq, Int.reduceNe, ek]
theorem runP_len (r : Ra) (j : Int) : (runP r j).1.length ≤ 4294967296 := by
  unfold runP
  by_cases hc : vaB r = true
  · rw [if_pos hc]
    split
    · obtain ⟨w, h, p, rfl, w1, w2, h1, h2, hlen⟩ := vaR_of hc
      have := runs_len (List.take w (List.drop (j.toNat * w) p)) []
      rw [List.length_take] at this
      simp only [List.length_nil] at this
      show (runsL (List.take w (List.drop (j.toNat * w) p))).length ≤ _
      unfold runsL
      omega
    · simp
  · rw [if_neg hc]; simp
theorem intsA_cn : ∀ l : List Int, intsA (cnC l) = some l
  | [] => rfl
  | x :: l => by
    show (intsA (cnC l)).map (x :: ·) = _
    rw [intsA_cn l]; rfl
theorem countP_eq (r : Ra) : ∃ q e, countP r = (cntL q, e) := by
  unfold countP; split
  · exact ⟨_, _, rfl⟩
  · exact ⟨_, _, rfl⟩
theorem tells4 (r : Ra) (hok : okP r.p) (j : Int) : PFun Tryd.prog 4 [RaA r, I j] (Bo true) := by
  refine PFun.intro 400 mixed Tryd.func4 (by kernel_rfl) rfl (by first | exact .v _ | (simp [Cl_v, Cl_t, Cl_g, Cl_fn, Cl_rp, Cl_ro]; done) | (simp [Cl_v, Cl_t, Cl_g, Cl_fn, Cl_rp, Cl_ro, or_imp, forall_and]; done) | (split <;> simp [Cl_v, Cl_t, Cl_g, Cl_fn, Cl_rp, Cl_ro])) (Nat.le_of_ble_eq_true rfl) ?_; rw [Tryd.ntmps4, Tryd.results4]
  simp -dsimp -implicitDefEqProofs (maxSteps := 1000000) only [go_sem, ↓reduceIte, Nat.reduceAdd, Nat.reduceSub, Nat.reduceMul, Nat.reduceLT, Nat.reduceLeDiff, Nat.reduceEqDiff, Nat.reduceBEq, Nat.reduceBNe, Int.reduceToNat, Int.reduceLT, Int.reduceLE, Int.reduceNeg, reduceCtorEq, Int.reduceEq, Int.reduceNe]
  refine AtFn.pure (few1 r) ?_
  simp -dsimp -implicitDefEqProofs (maxSteps := 1000000) only [go_sem, ↓reduceIte, Nat.reduceAdd, Nat.reduceSub, Nat.reduceMul, Nat.reduceLT, Nat.reduceLeDiff, Nat.reduceEqDiff, Nat.reduceBEq, Nat.reduceBNe, Int.reduceToNat, Int.reduceLT, Int.reduceLE, Int.reduceNeg, reduceCtorEq, Int.reduceEq, Int.reduceNe]
  refine ⟨fun hl => ?_, fun hl => ?_⟩
  rotate_left
  · refine AtFn.pure0 awake13 ?_
    simp -dsimp -implicitDefEqProofs (maxSteps := 1000000) only [go_sem, ↓reduceIte, Nat.reduceAdd, Nat.reduceSub, Nat.reduceMul, Nat.reduceLT, Nat.reduceLeDiff, Nat.reduceEqDiff, Nat.reduceBEq, Nat.reduceBNe, Int.reduceToNat, Int.reduceLT, Int.reduceLE, Int.reduceNeg, reduceCtorEq, Int.reduceEq, Int.reduceNe]
  refine AtFn.pure0 (box19 r hok) ?_
  simp -dsimp -implicitDefEqProofs (maxSteps := 1000000) only [go_sem, ↓reduceIte, Nat.reduceAdd, Nat.reduceSub, Nat.reduceMul, Nat.reduceLT, Nat.reduceLeDiff, Nat.reduceEqDiff, Nat.reduceBEq, Nat.reduceBNe, Int.reduceToNat, Int.reduceLT, Int.reduceLE, Int.reduceNeg, reduceCtorEq, Int.reduceEq, Int.reduceNe]
  refine AtFn.pure0 (box20 r) ?_
  obtain ⟨cq, ce, hcq⟩ := countP_eq r
  have hc1 := counts21 r hok
  have hc2 := counts22 r hok
  rw [hcq] at hc1 hc2
  simp -dsimp -implicitDefEqProofs (maxSteps := 1000000) only [go_sem, ↓reduceIte, Nat.reduceAdd, Nat.reduceSub, Nat.reduceMul, Nat.reduceLT, Nat.reduceLeDiff, Nat.reduceEqDiff, Nat.reduceBEq, Nat.reduceBNe, Int.reduceToNat, Int.reduceLT, Int.reduceLE, Int.reduceNeg, reduceCtorEq, Int.reduceEq, Int.reduceNe, ze37, cnt0, cnL, cnT, cnO]
  refine AtFn.pure0 hc1 ?_
  simp -dsimp -implicitDefEqProofs (maxSteps := 1000000) only [go_sem, ↓reduceIte, Nat.reduceAdd, Nat.reduceSub, Nat.reduceMul, Nat.reduceLT, Nat.reduceLeDiff, Nat.reduceEqDiff, Nat.reduceBEq, Nat.reduceBNe, Int.reduceToNat, Int.reduceLT, Int.reduceLE, Int.reduceNeg, reduceCtorEq, Int.reduceEq, Int.reduceNe, ze37, cnt0, cnL, cnT, cnO]
  refine AtFn.pure0 hc2 ?_
  simp -dsimp -implicitDefEqProofs (maxSteps := 1000000) only [go_sem, ↓reduceIte, Nat.reduceAdd, Nat.reduceSub, Nat.reduceMul, Nat.reduceLT, Nat.reduceLeDiff, Nat.reduceEqDiff, Nat.reduceBEq, Nat.reduceBNe, Int.reduceToNat, Int.reduceLT, Int.reduceLE, Int.reduceNeg, reduceCtorEq, Int.reduceEq, Int.reduceNe, ze37, cnt0, cnL, cnT, cnO, intsA_cn, cntL_len, iff_true_intro eqk37]
  refine AtFn.pure0 (text17 r hok) ?_
  simp -dsimp -implicitDefEqProofs (maxSteps := 1000000) only [go_sem, ↓reduceIte, Nat.reduceAdd, Nat.reduceSub, Nat.reduceMul, Nat.reduceLT, Nat.reduceLeDiff, Nat.reduceEqDiff, Nat.reduceBEq, Nat.reduceBNe, Int.reduceToNat, Int.reduceLT, Int.reduceLE, Int.reduceNeg, reduceCtorEq, Int.reduceEq, Int.reduceNe]
  refine AtFn.pure0 (text23 r hok) ?_
  simp -dsimp -implicitDefEqProofs (maxSteps := 1000000) only [go_sem, ↓reduceIte, Nat.reduceAdd, Nat.reduceSub, Nat.reduceMul, Nat.reduceLT, Nat.reduceLeDiff, Nat.reduceEqDiff, Nat.reduceBEq, Nat.reduceBNe, Int.reduceToNat, Int.reduceLT, Int.reduceLE, Int.reduceNeg, reduceCtorEq, Int.reduceEq, Int.reduceNe]
  refine AtFn.pure0 (runs24 r j hok) ?_
  simp -dsimp -implicitDefEqProofs (maxSteps := 1000000) only [go_sem, ↓reduceIte, Nat.reduceAdd, Nat.reduceSub, Nat.reduceMul, Nat.reduceLT, Nat.reduceLeDiff, Nat.reduceEqDiff, Nat.reduceBEq, Nat.reduceBNe, Int.reduceToNat, Int.reduceLT, Int.reduceLE, Int.reduceNeg, reduceCtorEq, Int.reduceEq, Int.reduceNe]
  refine AtFn.pure0 (runs25 r j hok) ?_
  simp -dsimp -implicitDefEqProofs (maxSteps := 1000000) only [go_sem, ↓reduceIte, Nat.reduceAdd, Nat.reduceSub, Nat.reduceMul, Nat.reduceLT, Nat.reduceLeDiff, Nat.reduceEqDiff, Nat.reduceBEq, Nat.reduceBNe, Int.reduceToNat, Int.reduceLT, Int.reduceLE, Int.reduceNeg, reduceCtorEq, Int.reduceEq, Int.reduceNe]
  refine AtFn.pure0 (same26 _ (runP_len r j)) ?_
  simp -dsimp -implicitDefEqProofs (maxSteps := 1000000) only [go_sem, ↓reduceIte, Nat.reduceAdd, Nat.reduceSub, Nat.reduceMul, Nat.reduceLT, Nat.reduceLeDiff, Nat.reduceEqDiff, Nat.reduceBEq, Nat.reduceBNe, Int.reduceToNat, Int.reduceLT, Int.reduceLE, Int.reduceNeg, reduceCtorEq, Int.reduceEq, Int.reduceNe]
  refine AtFn.pure0 awake13 ?_
  simp -dsimp -implicitDefEqProofs (maxSteps := 1000000) only [go_sem, ↓reduceIte, Nat.reduceAdd, Nat.reduceSub, Nat.reduceMul, Nat.reduceLT, Nat.reduceLeDiff, Nat.reduceEqDiff, Nat.reduceBEq, Nat.reduceBNe, Int.reduceToNat, Int.reduceLT, Int.reduceLE, Int.reduceNeg, reduceCtorEq, Int.reduceEq, Int.reduceNe]
end

end Go.Proofs.YtfmlhmfbhcfnpaaDoor
