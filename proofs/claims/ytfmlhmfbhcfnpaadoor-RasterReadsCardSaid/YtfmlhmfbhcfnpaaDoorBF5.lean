/- What functions of the given program answer, part 5. Conditions: each theorem speaks for itself. -/
import Derived.Test.YtfmlhmfbhcfnpaaDoorBTy
import Derived.Test.YtfmlhmfbhcfnpaaDoorBF1
import Derived.Test.YtfmlhmfbhcfnpaaDoorBF2
import Derived.Test.YtfmlhmfbhcfnpaaDoorBF3
import Derived.Test.YtfmlhmfbhcfnpaaDoorBF4
set_option linter.unusedSimpArgs false
set_option linter.unusedVariables false
namespace Go.Proofs.YtfmlhmfbhcfnpaaDoor
open Go Go.Eng Go.RowKit
attribute [local go_sem ↓] qE_move qE_assign qE_pick qE_load qE_fieldAddr qE_indexAddr qE_extract qE_binOp qE_not qE_convert qE_makeFunc qE_build qE_len qE_max2 qE_min2 qE_usd qE_nilCheck qE_slice vc_end vc_skip vc_scope vc_ret vc_seq vc_cond vc_block vc_exit vc_region vc_draw vc_rangeFunc vc_loop vc_blk vc_lp vc_o_nil vc_o vc_o_guard onK_eq oK_move oK_assign oK_pick oK_load oK_fieldAddr oK_indexAddr oK_index oK_extract oK_binOp oK_unOp oK_convert oK_makeFunc oK_nilCheck oK_slice oK_build oK_len oK_max oK_ustr oK_min onN_eq oK_box oK_alloc oK_buildSlice oK_makeSlice onH_eq oK_store onA_eq oK_append oK_call oK_range oK_next bV_add bV_sub bV_mul bV_quo bV_rem bV_and bV_or bV_shl bV_shr bV_eql bV_neq bV_lss bV_leq bV_gtr bV_geq bV_add_s bV_eql_s bV_neq_s vcQ_nil vcQ_cons Q_move Q_assign Q_load Q_fieldAddr Q_indexAddr Q_index Q_binOp Q_convert Q_nilCheck Q_slice Q_build Q_len Q_usd Q_min Q_buildSlice Q_call qE_index tailB_nil tailB_true onS_eq tailB_store onQ_eq loadE indexE
attribute [local go_sem] force_eq optK_some optE_some optE_none vK_v bK_v tK_t fnK_fn fyK_fn fyK_y nK_ptr pK_ptr pK_rp brK_true brK_false brK_not evA_tmp evA_const evA_func putA_some putA_none pushA_eq slots_zero tl_nil tl_cons find_cons find_nil setN_cons setN_nil dropN_nil dropN_cons loE_none loE_some hiE_none hiE_some slE_sl slE_ro slE_str bE_pp bE_p0 bE_00 bE_i bE_s bE_eql intsA_nil intsA_cons slK_sl ptrV_eql ptrV_neq gdK_b popTo_blk popTo_c popTo_lp nilE_tmp nilE_int nilE_str nilE_ptr nilE_nil srcE_ro srcE_sl srcE_str dstE_sl dstE_nil apK_E fin_eq res_nil res_tmp res_cell tup1 tup0 optA_some frz_v frz_ro frz_rp frz_g frz_fn frz_ptr frz_sl optL_some nm_v nm_ro nm_rp nm_g nm_fn nm_ptr cells_v cells_g cells_ro cells_ptr cells_sl one_int one_string one_slice oneA_v oneA_ro oneA_ptr oneA_sl ofV_int ofV_bool ofV_string ofV_slice ofV_nilFunc ofV_pointer len_ro len_sl asI_int fill_nil fill_cons chunks_nil chunks_cons DrawK_eq idR_eq roB_cons sg_nil sg_cons ren_v ren_nil ren_ptr ren_sl ren_ro ren_rp iK_ro iK_sl ixE_s RfEnd_eq RfQ_eq RfBody_eq takeA_00 takeA_s updL_cons updL_nil nil_eq maskE_eq i_InlQ i_tup2 i_RenF_nil i_RenF_cons i_cut_nil i_cut_cons wrap_wr brK_dec maskH_eq upd_get slots_succ Cl_v Cl_ro Cl_rp Cl_fn Cl_g Cl_t g_put0 g_put1 u_nil u_tmp u_cell u_fin Bool.false_eq_true decide_true decide_false beq_self_eq_true true_and and_true ne_eq not_true not_false_eq_true List.elem_cons List.elem_nil List.contains_cons List.contains_nil List.getD_cons_zero List.getD_cons_succ Int.cast_ofNat_Int Bool.or_true Bool.true_or Bool.or_false Bool.false_or if_true if_false List.toList_toArray List.map_cons List.map_nil List.cons_append List.nil_append List.append_nil List.flatMap_cons List.flatMap_nil List.getElem?_cons_zero List.getElem?_cons_succ List.length_cons List.length_nil List.drop_succ_cons List.drop_zero List.take_succ_cons List.take_zero List.all_cons List.all_nil List.set_cons_zero List.set_cons_succ Option.bind_some Option.bind_none Option.map_some Option.map_none List.headD_cons List.tail_cons List.getElem?_toArray beq_true beq_false Bool.not_true Bool.not_false Bool.true_and Bool.and_true Bool.false_and Bool.and_false newCh Option.some.injEq exists_eq_left' sg_nil sg_cons List.mem_cons List.not_mem_nil forall_eq_or_imp forall_eq false_implies implies_true or_false false_or false_and and_false or_true true_or exists_false Option.isSome_some Option.isSome_none List.range_zero
attribute [local go_sem] T.sz3 T.ag3 T.ik3 T.us3 T.sz5 T.by5 T.ag5 T.ik5 T.us5 T.ze5 T.sz9 T.by9 T.ag9 T.sl9 T.ar9 T.pt9 T.ik9 T.st9 T.ze9 T.us21 T.sz23 T.by23 T.ag23 T.sl23 T.ar23 T.pt23 T.ik23 T.us23 T.ux23 T.ze23 T.sz25 T.ag25 T.sf25 T.ze25 T.fl25_0 T.fl25_1 T.fl25_2 T.bu25 T.sz26 T.ag26 T.sf26 T.ze26 T.sz34 T.ag34 T.sf34 T.ze34 T.bu34 T.sl40 T.ik40 T.us40 T.ux40 T.sz50 T.by50 T.ag50 T.sl50 T.ar50 T.sf50 T.ze50 T.bu50 T.sl68 T.ar68 T.pt68 T.sz80 T.ag80 T.ik80 T.sf82 T.ze82 T.fl82_0 T.fl82_1 T.sz83 T.ag83 T.sl83 T.ik83 T.us83 T.ux83 T.ik117 -- NOREP
section
set_option maxRecDepth 20000
attribute [local go_sem] clPxT
theorem okZ : okP raZ.p := fun x hx => by simp at hx
theorem sameT {a : Ra} (h : okP a.p) : PFun Tryd.prog 16 [RaA a, RaA a] (Bo true) := by
  have := same16 a a h h
  rwa [show sameB a a = true by simp [sameB]] at this
end

section
set_option maxRecDepth 20000
attribute [local go_sem] clPxT
def hexJ (x : Int) : Bool := decide (0 ≤ IntKind.u8.wrap (x.tdiv 16)) && decide (digits[(IntKind.u8.wrap (x.tdiv 16)).toNat]? = some (digB (x / 16))) && decide (0 ≤ x.tmod 16) && decide (digits[(x.tmod 16).toNat]? = some (digB (x % 16)))
theorem hexJ_all : ((List.range 256).all fun n => hexJ (n : Int)) = true := by kernel_rfl
theorem hexJ_ok {x : Int} (h : 0 ≤ x ∧ x ≤ 255) : 0 ≤ IntKind.u8.wrap (x.tdiv 16) ∧ digits[(IntKind.u8.wrap (x.tdiv 16)).toNat]? = some (digB (x / 16)) ∧ 0 ≤ x.tmod 16 ∧ digits[(x.tmod 16).toNat]? = some (digB (x % 16)) := by
  have := List.all_eq_true.1 hexJ_all x.toNat (List.mem_range.2 (by omega))
  rw [show ((x.toNat : Nat) : Int) = x by omega] at this
  simp only [hexJ, Bool.and_eq_true, decide_eq_true_eq] at this
  obtain ⟨⟨⟨a, b⟩, c⟩, d⟩ := this
  exact ⟨a, b, c, d⟩
theorem toI_app2 (T : List UInt8) (a b : UInt8) : pxC (toI T) ++ [[AV.v (Value.int IntKind.u8 (a.toNat : Int))], [AV.v (Value.int IntKind.u8 (b.toNat : Int))]] = pxC (toI (T ++ [a, b])) := by simp [pxC, toI]
theorem toI_app1 (T : List UInt8) : pxC (toI T) ++ [[AV.v (Value.int IntKind.u8 10)]] = pxC (toI (T ++ [10])) := by simp [pxC, toI]
theorem toI_len (T : List UInt8) : (toI T).length = T.length := by simp [toI]
theorem pxT_n {x : Int} (h : ¬ x = 0) : pxT x = [digB (x / 16), digB (x % 16)] := by unfold pxT; rw [if_neg h]
theorem written61 (w h : Nat) (p : List Int) (w1 : 1 ≤ w) (w2 : w ≤ 256) (h1 : 1 ≤ h) (h2 : h ≤ 256) (hlen : p.length = w * h) (hok : okP p) : PFun Tryd.prog 61 [RaA ⟨w, h, p⟩] (Str ((rowsP w p).flatMap rowT)) := by
  have hN := prodN w2 h2
  obtain ⟨R, hR⟩ : ∃ R, R = rowsP w p := ⟨_, rfl⟩
  rw [← hR]
  have hRh : R.length = h := by rw [hR]; exact rowsP_len w1 hlen
  have hRg : ∀ j, j < h → R[j]? = some ((p.drop ((h - 1 - j) * w)).take w) := fun j hj => by rw [hR]; exact rowsP_get w1 hlen hj
  refine PFun.intro 400 mixed Tryd.func61 (by kernel_rfl) rfl (by first | exact .v _ | (simp [Cl_v, Cl_t, Cl_g, Cl_fn, Cl_rp, Cl_ro]; done) | (simp [Cl_v, Cl_t, Cl_g, Cl_fn, Cl_rp, Cl_ro, or_imp, forall_and]; done) | (split <;> simp [Cl_v, Cl_t, Cl_g, Cl_fn, Cl_rp, Cl_ro])) (Nat.le_of_ble_eq_true rfl) ?_; rw [Tryd.ntmps61, Tryd.results61]
  simp -dsimp -implicitDefEqProofs (maxSteps := 1000000) only [go_sem, ↓reduceIte, Nat.reduceAdd, Nat.reduceSub, Nat.reduceMul, Nat.reduceLT, Nat.reduceLeDiff, Nat.reduceEqDiff, Nat.reduceBEq, Nat.reduceBNe, Int.reduceToNat, Int.reduceLT, Int.reduceLE, Int.reduceNeg, reduceCtorEq, Int.reduceEq, Int.reduceNe]
  refine ⟨{k : Nat // k ≤ h}, fun k => ⟨56, tl [(1, .ptr 0 0 0), (3, .sl 1 0 ((R.take k.1).flatMap rowT).length), (9, I h), (10, I k.1)], [(0, ⟨3, [[I w, I h, .ro 1 (pxC p)]]⟩), (1, ⟨1, pxC (toI ((R.take k.1).flatMap rowT))⟩)], 2, .nil⟩, fun k => h - k.1,
    ⟨⟨0, by omega⟩, Le.tl0 (Ls := []) (y := none) [] ?_ ?_ (by simp) (by simp [sg]) trivial⟩, fun k => ?_⟩
  · simp -dsimp -implicitDefEqProofs (maxSteps := 1000000) only [go_sem, ↓reduceIte, Nat.reduceAdd, Nat.reduceSub, Nat.reduceMul, Nat.reduceLT, Nat.reduceLeDiff, Nat.reduceEqDiff, Nat.reduceBEq, Nat.reduceBNe, Int.reduceToNat, Int.reduceLT, Int.reduceLE, Int.reduceNeg, reduceCtorEq, Int.reduceEq, Int.reduceNe, List.take_zero, List.flatMap_nil]
  · simp -dsimp -implicitDefEqProofs (maxSteps := 1000000) only [go_sem, ↓reduceIte, Nat.reduceAdd, Nat.reduceSub, Nat.reduceMul, Nat.reduceLT, Nat.reduceLeDiff, Nat.reduceEqDiff, Nat.reduceBEq, Nat.reduceBNe, Int.reduceToNat, Int.reduceLT, Int.reduceLE, Int.reduceNeg, reduceCtorEq, Int.reduceEq, Int.reduceNe, List.take_zero, List.flatMap_nil]
    exact renL_F (by simp -dsimp -implicitDefEqProofs (maxSteps := 1000000) only [go_sem, ↓reduceIte, Nat.reduceAdd, Nat.reduceSub, Nat.reduceMul, Nat.reduceLT, Nat.reduceLeDiff, Nat.reduceEqDiff, Nat.reduceBEq, Nat.reduceBNe, Int.reduceToNat, Int.reduceLT, Int.reduceLE, Int.reduceNeg, reduceCtorEq, Int.reduceEq, Int.reduceNe])
  obtain ⟨k, hk⟩ := k
  simp -dsimp -implicitDefEqProofs (maxSteps := 1000000) only [go_sem, ↓reduceIte, Nat.reduceAdd, Nat.reduceSub, Nat.reduceMul, Nat.reduceLT, Nat.reduceLeDiff, Nat.reduceEqDiff, Nat.reduceBEq, Nat.reduceBNe, Int.reduceToNat, Int.reduceLT, Int.reduceLE, Int.reduceNeg, reduceCtorEq, Int.reduceEq, Int.reduceNe]
  refine ⟨fun hk' => ?_, fun hout => ?_⟩
  · have hkl : k < h := by omega
    have ek := wrA1 (a := k) (by omega)
    obtain ⟨j, hj⟩ : ∃ j, j = h - 1 - k := ⟨_, rfl⟩
    have hjw : j * w + w ≤ w * h := by
      have : (j + 1) * w ≤ h * w := Nat.mul_le_mul_right _ (by omega)
      rw [Nat.succ_mul, Nat.mul_comm h w] at this; exact this
    obtain ⟨row, hrow⟩ : ∃ row, row = (p.drop (j * w)).take w := ⟨_, rfl⟩
    have gk := hRg k hkl
    rw [← hj, ← hrow] at gk
    have hrl : row.length = w := by rw [hrow, List.length_take, List.length_drop, hlen]; omega
    have hrp : List.drop (j * w) (List.take ((j + 1) * w) (pxC p)) = pxC row := by
      rw [hrow]; unfold pxC
      rw [← List.map_take, ← List.map_drop, List.drop_take, Nat.succ_mul, show j * w + w - j * w = w by omega]
    have hokr : okP row := fun x hx => by
      rw [hrow] at hx
      exact hok x (List.mem_of_mem_drop (List.mem_of_mem_take hx))
    have s1 := wrS1 (a := h) (by omega) (by omega)
    have s2 : wr (((h - 1 : Nat) : Int) - (k : Int)) = (j : Int) := by rw [wr_in] <;> omega
    have b1 := wrM (a := j) (b := w) (by omega)
    have b2 := wrA1 (a := j) (by omega)
    have b3 := wrM (a := j + 1) (b := w) (by rw [Nat.succ_mul]; omega)
    have c1 : j * w ≤ (j + 1) * w := by rw [Nat.succ_mul]; omega
    have c2 : (j + 1) * w ≤ p.length := by rw [Nat.succ_mul, hlen]; exact hjw
    obtain ⟨T0, hT0⟩ : ∃ T0, T0 = (R.take k).flatMap rowT := ⟨_, rfl⟩
    rw [← hT0]
    have e1 : (R.take (k + 1)).flatMap rowT = T0 ++ row.flatMap pxT ++ [10] := by
      rw [List.take_add_one, gk, List.flatMap_append, ← hT0]; simp [rowT]
    have hT0l : T0.length ≤ 131328 := by
      rw [hT0, flat_len (n := 2 * w + 1) (fun r hr => ?_), List.length_take]
      · have : min k R.length * (2 * w + 1) ≤ 256 * 513 := Nat.mul_le_mul (by omega) (by omega)
        omega
      · obtain ⟨i, hi⟩ := List.getElem?_of_mem (List.mem_of_mem_take hr)
        have hil : i < R.length := (List.getElem?_eq_some_iff.1 hi).1
        rw [hRg i (by omega)] at hi
        rw [rowT_len, ← Option.some.inj hi, row_len hlen (by omega)]
    simp -dsimp -implicitDefEqProofs (maxSteps := 1000000) only [go_sem, ↓reduceIte, Nat.reduceAdd, Nat.reduceSub, Nat.reduceMul, Nat.reduceLT, Nat.reduceLeDiff, Nat.reduceEqDiff, Nat.reduceBEq, Nat.reduceBNe, Int.reduceToNat, Int.reduceLT, Int.reduceLE, Int.reduceNeg, reduceCtorEq, Int.reduceEq, Int.reduceNe, s1, s2, b1, b2, b3, c1, c2, pxC_len, hrp, hrl, Int.natCast_nonneg, Int.toNat_natCast]
    refine ⟨{i : Nat // i ≤ w}, fun i => ⟨56, tl [(1, .ptr 0 0 0), (3, .sl 1 0 (T0 ++ (row.take i.1).flatMap pxT).length), (9, I h), (10, I k), (29, .ro 1 (pxC row)), (30, I w), (31, I i.1)], [(0, ⟨3, [[I w, I h, .ro 1 (pxC p)]]⟩), (1, ⟨1, pxC (toI (T0 ++ (row.take i.1).flatMap pxT))⟩)], 2, .nil⟩, fun i => w - i.1,
      ⟨⟨0, by omega⟩, Le.tl (Ls := []) (y := none) [] ?_ ?_ (by simp) (by simp [sg]) trivial⟩, fun i => ?_⟩
    · simp -dsimp -implicitDefEqProofs (maxSteps := 1000000) only [go_sem, ↓reduceIte, Nat.reduceAdd, Nat.reduceSub, Nat.reduceMul, Nat.reduceLT, Nat.reduceLeDiff, Nat.reduceEqDiff, Nat.reduceBEq, Nat.reduceBNe, Int.reduceToNat, Int.reduceLT, Int.reduceLE, Int.reduceNeg, reduceCtorEq, Int.reduceEq, Int.reduceNe, List.take_zero, List.flatMap_nil, List.append_nil]
    · simp -dsimp -implicitDefEqProofs (maxSteps := 1000000) only [go_sem, ↓reduceIte, Nat.reduceAdd, Nat.reduceSub, Nat.reduceMul, Nat.reduceLT, Nat.reduceLeDiff, Nat.reduceEqDiff, Nat.reduceBEq, Nat.reduceBNe, Int.reduceToNat, Int.reduceLT, Int.reduceLE, Int.reduceNeg, reduceCtorEq, Int.reduceEq, Int.reduceNe, List.take_zero, List.flatMap_nil, List.append_nil]
      exact ⟨renL_F (by simp -dsimp -implicitDefEqProofs (maxSteps := 1000000) only [go_sem, ↓reduceIte, Nat.reduceAdd, Nat.reduceSub, Nat.reduceMul, Nat.reduceLT, Nat.reduceLeDiff, Nat.reduceEqDiff, Nat.reduceBEq, Nat.reduceBNe, Int.reduceToNat, Int.reduceLT, Int.reduceLE, Int.reduceNeg, reduceCtorEq, Int.reduceEq, Int.reduceNe]), renL_cl2 rfl (clPx _)⟩
    obtain ⟨i, hi⟩ := i
    obtain ⟨T, hT⟩ : ∃ T, T = T0 ++ (row.take i).flatMap pxT := ⟨_, rfl⟩
    simp only
    rw [← hT]
    have hTl : T.length ≤ 131328 + 512 := by
      rw [hT, List.length_append, flat_len (fun x _ => pxT_len x), List.length_take]
      omega
    simp -dsimp -implicitDefEqProofs (maxSteps := 1000000) only [go_sem, ↓reduceIte, Nat.reduceAdd, Nat.reduceSub, Nat.reduceMul, Nat.reduceLT, Nat.reduceLeDiff, Nat.reduceEqDiff, Nat.reduceBEq, Nat.reduceBNe, Int.reduceToNat, Int.reduceLT, Int.reduceLE, Int.reduceNeg, reduceCtorEq, Int.reduceEq, Int.reduceNe, pxC_len, hrl]
    refine ⟨fun hi' => ?_, fun hout => ?_⟩
    · have hil : i < w := by omega
      have ei := wrA1 (a := i) (by omega)
      obtain ⟨x, hx⟩ : ∃ x, row[i]? = some x := ⟨_, List.getElem?_eq_getElem (by omega)⟩
      have hxb := hokr x (List.mem_of_getElem? hx)
      have e2 : T0 ++ (row.take (i + 1)).flatMap pxT = T ++ pxT x := by
        rw [List.take_add_one, hx, List.flatMap_append, hT]; simp
      by_cases hx0 : x = 0
      · simp -dsimp -implicitDefEqProofs (maxSteps := 1000000) only [go_sem, ↓reduceIte, Nat.reduceAdd, Nat.reduceSub, Nat.reduceMul, Nat.reduceLT, Nat.reduceLeDiff, Nat.reduceEqDiff, Nat.reduceBEq, Nat.reduceBNe, Int.reduceToNat, Int.reduceLT, Int.reduceLE, Int.reduceNeg, reduceCtorEq, Int.reduceEq, Int.reduceNe, hx, hx0, hi', pxC_get, Int.natCast_nonneg, Int.toNat_natCast, Nat.zero_add]
        have hp2 : pxC (toI T) ++ [[AV.v (Value.int IntKind.u8 46)], [AV.v (Value.int IntKind.u8 46)]] = pxC (toI (T ++ pxT x)) := by rw [hx0]; exact toI_app2 T 46 46
        refine AtOp.appE _ _ _ _ _ _ _ _ _ _ _ _ _ _ (by kernel_rfl) ?_
        simp -dsimp -implicitDefEqProofs (maxSteps := 1000000) only [go_sem, ↓reduceIte, Nat.reduceAdd, Nat.reduceSub, Nat.reduceMul, Nat.reduceLT, Nat.reduceLeDiff, Nat.reduceEqDiff, Nat.reduceBEq, Nat.reduceBNe, Int.reduceToNat, Int.reduceLT, Int.reduceLE, Int.reduceNeg, reduceCtorEq, Int.reduceEq, Int.reduceNe, takePx _ _ (toI_len T), hp2, pxC_len, toI_len, Nat.zero_add]
        refine ⟨Nat.le_refl _, by omega, ⟨i + 1, by omega⟩, by show w - (i + 1) < w - i; omega, Le.tl (Ls := []) (y := none) [(1, 3)] ?_ ?_ (by simp) (by simp [sg]) trivial⟩
        · simp -dsimp -implicitDefEqProofs (maxSteps := 1000000) only [go_sem, ↓reduceIte, Nat.reduceAdd, Nat.reduceSub, Nat.reduceMul, Nat.reduceLT, Nat.reduceLeDiff, Nat.reduceEqDiff, Nat.reduceBEq, Nat.reduceBNe, Int.reduceToNat, Int.reduceLT, Int.reduceLE, Int.reduceNeg, reduceCtorEq, Int.reduceEq, Int.reduceNe, ei, e2]
        · simp -dsimp -implicitDefEqProofs (maxSteps := 1000000) only [go_sem, ↓reduceIte, Nat.reduceAdd, Nat.reduceSub, Nat.reduceMul, Nat.reduceLT, Nat.reduceLeDiff, Nat.reduceEqDiff, Nat.reduceBEq, Nat.reduceBNe, Int.reduceToNat, Int.reduceLT, Int.reduceLE, Int.reduceNeg, reduceCtorEq, Int.reduceEq, Int.reduceNe, e2]
          exact ⟨renL_F (by simp -dsimp -implicitDefEqProofs (maxSteps := 1000000) only [go_sem, ↓reduceIte, Nat.reduceAdd, Nat.reduceSub, Nat.reduceMul, Nat.reduceLT, Nat.reduceLeDiff, Nat.reduceEqDiff, Nat.reduceBEq, Nat.reduceBNe, Int.reduceToNat, Int.reduceLT, Int.reduceLE, Int.reduceNeg, reduceCtorEq, Int.reduceEq, Int.reduceNe]), renL_cl2 rfl (clPx _)⟩
      · simp -dsimp -implicitDefEqProofs (maxSteps := 1000000) only [go_sem, ↓reduceIte, Nat.reduceAdd, Nat.reduceSub, Nat.reduceMul, Nat.reduceLT, Nat.reduceLeDiff, Nat.reduceEqDiff, Nat.reduceBEq, Nat.reduceBNe, Int.reduceToNat, Int.reduceLT, Int.reduceLE, Int.reduceNeg, reduceCtorEq, Int.reduceEq, Int.reduceNe, hx, hx0, hi', pxC_get, Int.natCast_nonneg, Int.toNat_natCast, Nat.zero_add]
        have hp2 : pxC (toI T) ++ [[AV.v (Value.int IntKind.u8 ((digB (x / 16)).toNat : Int))], [AV.v (Value.int IntKind.u8 ((digB (x % 16)).toNat : Int))]] = pxC (toI (T ++ pxT x)) := by rw [pxT_n hx0]; exact toI_app2 T _ _
        obtain ⟨q1, q2, q3, q4⟩ := hexJ_ok hxb
        refine AtCode.draw 8 [([], []), ([], []), ([1], []), ([1, 2], []), ([], []), ([4], []), ([4, 5], []), ([1, 2, 3, 4, 5, 6], []), ([0, 1, 2, 3, 4, 5, 6, 7], []), ([0, 1, 2, 3, 4, 5, 6, 7, 8], [])] (by kernel_rfl) ?_
        simp -dsimp -implicitDefEqProofs (maxSteps := 1000000) only [go_sem, ↓reduceIte, Nat.reduceAdd, Nat.reduceSub, Nat.reduceMul, Nat.reduceLT, Nat.reduceLeDiff, Nat.reduceEqDiff, Nat.reduceBEq, Nat.reduceBNe, Int.reduceToNat, Int.reduceLT, Int.reduceLE, Int.reduceNeg, reduceCtorEq, Int.reduceEq, Int.reduceNe, q2, q4]
        refine ⟨q1, q3, ?_⟩
        refine AtOp.appE _ _ _ _ _ _ _ _ _ _ _ _ _ _ (by kernel_rfl) ?_
        simp -dsimp -implicitDefEqProofs (maxSteps := 1000000) only [go_sem, ↓reduceIte, Nat.reduceAdd, Nat.reduceSub, Nat.reduceMul, Nat.reduceLT, Nat.reduceLeDiff, Nat.reduceEqDiff, Nat.reduceBEq, Nat.reduceBNe, Int.reduceToNat, Int.reduceLT, Int.reduceLE, Int.reduceNeg, reduceCtorEq, Int.reduceEq, Int.reduceNe, takePx _ _ (toI_len T), hp2, pxC_len, toI_len, Nat.zero_add]
        refine ⟨Nat.le_refl _, by omega, ⟨i + 1, by omega⟩, by show w - (i + 1) < w - i; omega, Le.tl (Ls := []) (y := none) [(1, 10)] ?_ ?_ (by simp) (by simp [sg]) trivial⟩
        · simp -dsimp -implicitDefEqProofs (maxSteps := 1000000) only [go_sem, ↓reduceIte, Nat.reduceAdd, Nat.reduceSub, Nat.reduceMul, Nat.reduceLT, Nat.reduceLeDiff, Nat.reduceEqDiff, Nat.reduceBEq, Nat.reduceBNe, Int.reduceToNat, Int.reduceLT, Int.reduceLE, Int.reduceNeg, reduceCtorEq, Int.reduceEq, Int.reduceNe, ei, e2]
        · simp -dsimp -implicitDefEqProofs (maxSteps := 1000000) only [go_sem, ↓reduceIte, Nat.reduceAdd, Nat.reduceSub, Nat.reduceMul, Nat.reduceLT, Nat.reduceLeDiff, Nat.reduceEqDiff, Nat.reduceBEq, Nat.reduceBNe, Int.reduceToNat, Int.reduceLT, Int.reduceLE, Int.reduceNeg, reduceCtorEq, Int.reduceEq, Int.reduceNe, e2]
          exact ⟨renL_F (by simp -dsimp -implicitDefEqProofs (maxSteps := 1000000) only [go_sem, ↓reduceIte, Nat.reduceAdd, Nat.reduceSub, Nat.reduceMul, Nat.reduceLT, Nat.reduceLeDiff, Nat.reduceEqDiff, Nat.reduceBEq, Nat.reduceBNe, Int.reduceToNat, Int.reduceLT, Int.reduceLE, Int.reduceNeg, reduceCtorEq, Int.reduceEq, Int.reduceNe]), renL_cl2 rfl (clPx _)⟩
    · obtain rfl : i = w := by omega
      have hp2 := toI_app1 T
      have e3 : (R.take (k + 1)).flatMap rowT = T ++ [10] := by rw [e1, hT, ← hrl, List.take_length]
      refine AtOp.appE _ _ _ _ _ _ _ _ _ _ _ _ _ _ (by kernel_rfl) ?_
      simp -dsimp -implicitDefEqProofs (maxSteps := 1000000) only [go_sem, ↓reduceIte, Nat.reduceAdd, Nat.reduceSub, Nat.reduceMul, Nat.reduceLT, Nat.reduceLeDiff, Nat.reduceEqDiff, Nat.reduceBEq, Nat.reduceBNe, Int.reduceToNat, Int.reduceLT, Int.reduceLE, Int.reduceNeg, reduceCtorEq, Int.reduceEq, Int.reduceNe, takePx _ _ (toI_len T), hp2, pxC_len, toI_len, Nat.zero_add]
      refine ⟨Nat.le_refl _, by omega, ⟨k + 1, by omega⟩, by show h - (k + 1) < h - k; omega, Le.tl (Ls := []) (y := none) [(1, 3)] ?_ ?_ (by simp) (by simp [sg]) trivial⟩
      · simp -dsimp -implicitDefEqProofs (maxSteps := 1000000) only [go_sem, ↓reduceIte, Nat.reduceAdd, Nat.reduceSub, Nat.reduceMul, Nat.reduceLT, Nat.reduceLeDiff, Nat.reduceEqDiff, Nat.reduceBEq, Nat.reduceBNe, Int.reduceToNat, Int.reduceLT, Int.reduceLE, Int.reduceNeg, reduceCtorEq, Int.reduceEq, Int.reduceNe, ek, e3]
      · simp -dsimp -implicitDefEqProofs (maxSteps := 1000000) only [go_sem, ↓reduceIte, Nat.reduceAdd, Nat.reduceSub, Nat.reduceMul, Nat.reduceLT, Nat.reduceLeDiff, Nat.reduceEqDiff, Nat.reduceBEq, Nat.reduceBNe, Int.reduceToNat, Int.reduceLT, Int.reduceLE, Int.reduceNeg, reduceCtorEq, Int.reduceEq, Int.reduceNe, e3]
        exact ⟨renL_F (by simp -dsimp -implicitDefEqProofs (maxSteps := 1000000) only [go_sem, ↓reduceIte, Nat.reduceAdd, Nat.reduceSub, Nat.reduceMul, Nat.reduceLT, Nat.reduceLeDiff, Nat.reduceEqDiff, Nat.reduceBEq, Nat.reduceBNe, Int.reduceToNat, Int.reduceLT, Int.reduceLE, Int.reduceNeg, reduceCtorEq, Int.reduceEq, Int.reduceNe]), renL_cl2 rfl (clPx _)⟩
  · obtain rfl : k = h := by omega
    rw [show R.take k = R by rw [← hRh, List.take_length]]
    refine AtOp.b2s (e := 5) (l := toI (R.flatMap rowT)) rfl (by kernel_rfl) (by kernel_rfl) (by kernel_rfl) (by simp -dsimp -implicitDefEqProofs (maxSteps := 1000000) only [go_sem, ↓reduceIte, Nat.reduceAdd, Nat.reduceSub, Nat.reduceMul, Nat.reduceLT, Nat.reduceLeDiff, Nat.reduceEqDiff, Nat.reduceBEq, Nat.reduceBNe, Int.reduceToNat, Int.reduceLT, Int.reduceLE, Int.reduceNeg, reduceCtorEq, Int.reduceEq, Int.reduceNe]) ⟨rfl, by rw [pxC_len, toI_len]; omega, takePx _ _ (toI_len _)⟩ ?_
    rw [ofI_toI]
    simp -dsimp -implicitDefEqProofs (maxSteps := 1000000) only [go_sem, ↓reduceIte, Nat.reduceAdd, Nat.reduceSub, Nat.reduceMul, Nat.reduceLT, Nat.reduceLeDiff, Nat.reduceEqDiff, Nat.reduceBEq, Nat.reduceBNe, Int.reduceToNat, Int.reduceLT, Int.reduceLE, Int.reduceNeg, reduceCtorEq, Int.reduceEq, Int.reduceNe]
end

section
set_option maxRecDepth 20000
attribute [local go_sem] clPxT
def dgF (c : UInt8) : Nat := ((List.range 16).find? fun i => digL.getD i 0 == c).getD 0
theorem dgF_lt (c : UInt8) : dgF c < 16 := by
  unfold dgF
  cases h : (List.range 16).find? fun i => digL.getD i 0 == c with
  | none => simp
  | some k =>
    have := List.mem_of_find?_eq_some h
    simpa using List.mem_range.1 this
theorem digs_get {i : Nat} (h : i < 16) : digits[i]? = some (digL.getD i 0) := by
  show (⟨digL.toArray⟩ : ByteArray)[i]? = _
  rw [get_str, List.getElem?_eq_getElem (by exact h), List.getD, List.getElem?_eq_getElem (by exact h)]; rfl
theorem dig60 (c : UInt8) : PFun Tryd.prog 60 [U (c.toNat : Int)] (I (dgF c : Int)) := by
  refine PFun.intro 400 mixed Tryd.func60 (by kernel_rfl) rfl (by first | exact .v _ | (simp [Cl_v, Cl_t, Cl_g, Cl_fn, Cl_rp, Cl_ro]; done) | (simp [Cl_v, Cl_t, Cl_g, Cl_fn, Cl_rp, Cl_ro, or_imp, forall_and]; done) | (split <;> simp [Cl_v, Cl_t, Cl_g, Cl_fn, Cl_rp, Cl_ro])) (Nat.le_of_ble_eq_true rfl) ?_; rw [Tryd.ntmps60, Tryd.results60]
  simp -dsimp -implicitDefEqProofs (maxSteps := 1000000) only [go_sem, ↓reduceIte, Nat.reduceAdd, Nat.reduceSub, Nat.reduceMul, Nat.reduceLT, Nat.reduceLeDiff, Nat.reduceEqDiff, Nat.reduceBEq, Nat.reduceBNe, Int.reduceToNat, Int.reduceLT, Int.reduceLE, Int.reduceNeg, reduceCtorEq, Int.reduceEq, Int.reduceNe]
  refine ⟨{k : Nat // k ≤ 16 ∧ ∀ j, j < k → (digL.getD j 0 == c) = false}, fun k => ⟨13, tl [(0, U (c.toNat : Int)), (2, I 0), (4, I k.1)], [], 0, .nil⟩, fun k => 16 - k.1,
    ⟨⟨0, by omega, by omega⟩, Le.tl0 (Ls := []) (y := none) [] ?_ (by simp -dsimp -implicitDefEqProofs (maxSteps := 1000000) only [go_sem, ↓reduceIte, Nat.reduceAdd, Nat.reduceSub, Nat.reduceMul, Nat.reduceLT, Nat.reduceLeDiff, Nat.reduceEqDiff, Nat.reduceBEq, Nat.reduceBNe, Int.reduceToNat, Int.reduceLT, Int.reduceLE, Int.reduceNeg, reduceCtorEq, Int.reduceEq, Int.reduceNe]) (by simp) (by simp [sg]) trivial⟩, fun k => ?_⟩
  · simp -dsimp -implicitDefEqProofs (maxSteps := 1000000) only [go_sem, ↓reduceIte, Nat.reduceAdd, Nat.reduceSub, Nat.reduceMul, Nat.reduceLT, Nat.reduceLeDiff, Nat.reduceEqDiff, Nat.reduceBEq, Nat.reduceBNe, Int.reduceToNat, Int.reduceLT, Int.reduceLE, Int.reduceNeg, reduceCtorEq, Int.reduceEq, Int.reduceNe]
  obtain ⟨k, hk, hall⟩ := k
  simp -dsimp -implicitDefEqProofs (maxSteps := 1000000) only [go_sem, ↓reduceIte, Nat.reduceAdd, Nat.reduceSub, Nat.reduceMul, Nat.reduceLT, Nat.reduceLeDiff, Nat.reduceEqDiff, Nat.reduceBEq, Nat.reduceBNe, Int.reduceToNat, Int.reduceLT, Int.reduceLE, Int.reduceNeg, reduceCtorEq, Int.reduceEq, Int.reduceNe]
  refine ⟨fun hk' => ?_, fun hout => ?_⟩
  · have hkl : k < 16 := by omega
    have ek := wrA1 (a := k) (by omega)
    have hg := digs_get hkl
    simp -dsimp -implicitDefEqProofs (maxSteps := 1000000) only [go_sem, ↓reduceIte, Nat.reduceAdd, Nat.reduceSub, Nat.reduceMul, Nat.reduceLT, Nat.reduceLeDiff, Nat.reduceEqDiff, Nat.reduceBEq, Nat.reduceBNe, Int.reduceToNat, Int.reduceLT, Int.reduceLE, Int.reduceNeg, reduceCtorEq, Int.reduceEq, Int.reduceNe, hg, Int.natCast_nonneg, Int.toNat_natCast]
    refine ⟨fun hq => ?_, fun hq => ?_⟩
    · have hq2 : (digL.getD k 0 == c) = true := by
        rw [beq_iff_eq, ← UInt8.toNat_inj]; omega
      have : dgF c = k := by unfold dgF; rw [find_some hkl hq2 hall]; rfl
      rw [this]
    · refine ⟨⟨k + 1, by omega, fun j hj => ?_⟩, by show 16 - (k + 1) < 16 - k; omega, Le.tl (Ls := []) (y := none) [] ?_ (by simp -dsimp -implicitDefEqProofs (maxSteps := 1000000) only [go_sem, ↓reduceIte, Nat.reduceAdd, Nat.reduceSub, Nat.reduceMul, Nat.reduceLT, Nat.reduceLeDiff, Nat.reduceEqDiff, Nat.reduceBEq, Nat.reduceBNe, Int.reduceToNat, Int.reduceLT, Int.reduceLE, Int.reduceNeg, reduceCtorEq, Int.reduceEq, Int.reduceNe]) (by simp) (by simp [sg]) trivial⟩
      · by_cases hjk : j = k
        · rw [hjk, beq_eq_false_iff_ne]
          intro e; exact hq (by rw [e])
        · exact hall j (by omega)
      · simp -dsimp -implicitDefEqProofs (maxSteps := 1000000) only [go_sem, ↓reduceIte, Nat.reduceAdd, Nat.reduceSub, Nat.reduceMul, Nat.reduceLT, Nat.reduceLeDiff, Nat.reduceEqDiff, Nat.reduceBEq, Nat.reduceBNe, Int.reduceToNat, Int.reduceLT, Int.reduceLE, Int.reduceNeg, reduceCtorEq, Int.reduceEq, Int.reduceNe, ek]
  · obtain rfl : k = 16 := by omega
    have : dgF c = 0 := by unfold dgF; rw [find_none hall]; rfl
    rw [this]; rfl
def wdP : List UInt8 → Nat
  | [] => 0
  | c :: S => if c = 10 then 0 else wdP S + 1
theorem wd_cons (c : UInt8) (S : List UInt8) : wdP (c :: S) = if c = 10 then 0 else wdP S + 1 := rfl
theorem wd_le : ∀ S : List UInt8, wdP S ≤ S.length
  | [] => Nat.le_refl _
  | c :: S => by
    have := wd_le S
    rw [wd_cons, List.length_cons]
    split <;> omega
theorem wd_get : ∀ {S : List UInt8} {i : Nat}, i < wdP S → ∃ c, S[i]? = some c ∧ c ≠ 10
  | [], i, h => by simp [wdP] at h
  | c :: S, i, h => by
    rw [wd_cons] at h
    split at h
    · omega
    · rename_i hc
      cases i with
      | zero => exact ⟨c, rfl, hc⟩
      | succ i => exact wd_get (S := S) (i := i) (by omega)
theorem wd_stop : ∀ {S : List UInt8}, wdP S < S.length → S[wdP S]? = some 10
  | [], h => by simp at h
  | c :: S, h => by
    rw [wd_cons] at h ⊢
    split
    · rename_i hc; rw [hc]; rfl
    · rename_i hc
      rw [if_neg hc, List.length_cons] at h
      exact wd_stop (S := S) (by omega)
def atF (w h wd k : Nat) : Nat := (h - 1 - k / w) * (wd + 1) + 2 * (k % w)
def pxF (S : List UInt8) (w h wd k : Nat) : Int := ((16 * dgF (S.getD (atF w h wd k) 0) + dgF (S.getD (atF w h wd k + 1) 0) : Nat) : Int)
def rdP (S : List UInt8) (w h wd : Nat) : List Int := (List.range (w * h)).map (pxF S w h wd)
def refC (S : List UInt8) : Bool := decide (1 ≤ wdP S / 2) && decide (wdP S / 2 ≤ 256) && decide (1 ≤ S.length / (wdP S + 1)) && decide (S.length / (wdP S + 1) ≤ 256) && decide (S.length = S.length / (wdP S + 1) * (wdP S + 1))
def refP (S : List UInt8) : Ra × Int :=
  if refC S then (if (rowsP (wdP S / 2) (rdP S (wdP S / 2) (S.length / (wdP S + 1)) (wdP S))).flatMap rowT = S then (⟨(wdP S / 2 : Nat), (S.length / (wdP S + 1) : Nat), rdP S (wdP S / 2) (S.length / (wdP S + 1)) (wdP S)⟩, 0) else (raZ, 30)) else (raZ, 30)
theorem ok_rd (S : List UInt8) (w h wd : Nat) : okP (rdP S w h wd) := fun x hx => by
  obtain ⟨k, _, rfl⟩ := List.mem_map.1 hx
  unfold pxF
  have h1 := dgF_lt (S.getD (atF w h wd k) 0)
  have h2 := dgF_lt (S.getD (atF w h wd k + 1) 0)
  omega
theorem strGet {S : List UInt8} {i : Nat} {c : UInt8} (h : S[i]? = some c) : (⟨S.toArray⟩ : ByteArray)[i]? = some c := by rw [get_str, h]
def rowO (w h k : Nat) : Nat := (h - 1 - k / w) * w + k % w
theorem rowO_iff {w h i j k : Nat} (hi : i < w) (hj : j < h) (hk : k < w * h) : rowO w h k = j * w + i ↔ k = (h - 1 - j) * w + i := by
  have m := mod_lt2 hk
  unfold rowO
  rw [lex_eq m.1 hi, divmod_eq hi]
  have m2 := m.2
  generalize k / w = b at *
  constructor
  · rintro ⟨a, c⟩; exact ⟨by omega, c⟩
  · rintro ⟨a, c⟩; exact ⟨by omega, c⟩
theorem rowO_lt {w h k : Nat} (hk : k < w * h) : rowO w h k < h * w := by
  have m := mod_lt2 hk
  unfold rowO
  have m2 := m.2
  have m3 : h - 1 - k / w < h := by
    generalize k / w = b at *
    omega
  have := idx_lt (i := k % w) (j := h - 1 - k / w) (w := w) (h := h) m.1 m3
  rw [Nat.mul_comm h w]; exact this
theorem parse15g (S : List UInt8) (hS : S.length ≤ 1073741824) (X : AV) (hX : Cl X) (hA : refC S = false → X = .t [raO, I 30])
    (hB : refC S = true → ¬ (rowsP (wdP S / 2) (rdP S (wdP S / 2) (S.length / (wdP S + 1)) (wdP S))).flatMap rowT = S → X = .t [raO, I 30])
    (hC : refC S = true → (rowsP (wdP S / 2) (rdP S (wdP S / 2) (S.length / (wdP S + 1)) (wdP S))).flatMap rowT = S → X = RE (⟨(wdP S / 2 : Nat), (S.length / (wdP S + 1) : Nat), rdP S (wdP S / 2) (S.length / (wdP S + 1)) (wdP S)⟩, 0)) : PFun Tryd.prog 15 [Str S] X := by
  have hwl := wd_le S
  refine PFun.intro 400 mixed Tryd.func15 (by kernel_rfl) rfl (hX) (Nat.le_of_ble_eq_true rfl) ?_; rw [Tryd.ntmps15, Tryd.results15]
  simp -dsimp -implicitDefEqProofs (maxSteps := 1000000) only [go_sem, ↓reduceIte, Nat.reduceAdd, Nat.reduceSub, Nat.reduceMul, Nat.reduceLT, Nat.reduceLeDiff, Nat.reduceEqDiff, Nat.reduceBEq, Nat.reduceBNe, Int.reduceToNat, Int.reduceLT, Int.reduceLE, Int.reduceNeg, reduceCtorEq, Int.reduceEq, Int.reduceNe, size_str]
  refine ⟨{i : Nat // i ≤ wdP S}, fun i => ⟨103, tl [(0, Str S), (2, .ptr 0 0 0), (3, I 0), (4, I i.1)], [(0, ⟨3, [[I 0, I 0, .v (.slice none 0 0)]]⟩)], 1, .nil⟩, fun i => wdP S - i.1,
    ⟨⟨0, by omega⟩, Le.tl (Ls := []) (y := none) [] ?_ ?_ (by simp) (by simp [sg]) trivial⟩, fun i => ?_⟩
  · simp -dsimp -implicitDefEqProofs (maxSteps := 1000000) only [go_sem, ↓reduceIte, Nat.reduceAdd, Nat.reduceSub, Nat.reduceMul, Nat.reduceLT, Nat.reduceLeDiff, Nat.reduceEqDiff, Nat.reduceBEq, Nat.reduceBNe, Int.reduceToNat, Int.reduceLT, Int.reduceLE, Int.reduceNeg, reduceCtorEq, Int.reduceEq, Int.reduceNe]
  · simp -dsimp -implicitDefEqProofs (maxSteps := 1000000) only [go_sem, ↓reduceIte, Nat.reduceAdd, Nat.reduceSub, Nat.reduceMul, Nat.reduceLT, Nat.reduceLeDiff, Nat.reduceEqDiff, Nat.reduceBEq, Nat.reduceBNe, Int.reduceToNat, Int.reduceLT, Int.reduceLE, Int.reduceNeg, reduceCtorEq, Int.reduceEq, Int.reduceNe]
    exact renL_F (by simp -dsimp -implicitDefEqProofs (maxSteps := 1000000) only [go_sem, ↓reduceIte, Nat.reduceAdd, Nat.reduceSub, Nat.reduceMul, Nat.reduceLT, Nat.reduceLeDiff, Nat.reduceEqDiff, Nat.reduceBEq, Nat.reduceBNe, Int.reduceToNat, Int.reduceLT, Int.reduceLE, Int.reduceNeg, reduceCtorEq, Int.reduceEq, Int.reduceNe])
  obtain ⟨i, hi⟩ := i
  simp -dsimp -implicitDefEqProofs (maxSteps := 1000000) only [go_sem, ↓reduceIte, Nat.reduceAdd, Nat.reduceSub, Nat.reduceMul, Nat.reduceLT, Nat.reduceLeDiff, Nat.reduceEqDiff, Nat.reduceBEq, Nat.reduceBNe, Int.reduceToNat, Int.reduceLT, Int.reduceLE, Int.reduceNeg, reduceCtorEq, Int.reduceEq, Int.reduceNe, size_str]
  have ei := wrA1 (a := i) (by omega)
  by_cases hi' : i < wdP S
  · obtain ⟨c, hc, hc10⟩ := wd_get hi'
    have l1 : (i : Int) < (S.length : Int) := by omega
    have hcn : ¬ (c.toNat : Int) = 10 := fun e => hc10 (by
      rw [← UInt8.toNat_inj]
      show c.toNat = 10
      omega)
    simp -dsimp -implicitDefEqProofs (maxSteps := 1000000) only [go_sem, ↓reduceIte, Nat.reduceAdd, Nat.reduceSub, Nat.reduceMul, Nat.reduceLT, Nat.reduceLeDiff, Nat.reduceEqDiff, Nat.reduceBEq, Nat.reduceBNe, Int.reduceToNat, Int.reduceLT, Int.reduceLE, Int.reduceNeg, reduceCtorEq, Int.reduceEq, Int.reduceNe, l1, strGet hc, Int.natCast_nonneg, Int.toNat_natCast, hcn]
    intros
    refine ⟨⟨i + 1, by omega⟩, by show wdP S - (i + 1) < wdP S - i; omega, Le.tl (Ls := []) (y := none) [] (by simp -dsimp -implicitDefEqProofs (maxSteps := 1000000) only [go_sem, ↓reduceIte, Nat.reduceAdd, Nat.reduceSub, Nat.reduceMul, Nat.reduceLT, Nat.reduceLeDiff, Nat.reduceEqDiff, Nat.reduceBEq, Nat.reduceBNe, Int.reduceToNat, Int.reduceLT, Int.reduceLE, Int.reduceNeg, reduceCtorEq, Int.reduceEq, Int.reduceNe, ei]) ?_ (by simp) (by simp [sg]) trivial⟩
    simp -dsimp -implicitDefEqProofs (maxSteps := 1000000) only [go_sem, ↓reduceIte, Nat.reduceAdd, Nat.reduceSub, Nat.reduceMul, Nat.reduceLT, Nat.reduceLeDiff, Nat.reduceEqDiff, Nat.reduceBEq, Nat.reduceBNe, Int.reduceToNat, Int.reduceLT, Int.reduceLE, Int.reduceNeg, reduceCtorEq, Int.reduceEq, Int.reduceNe]
    exact renL_F (by simp -dsimp -implicitDefEqProofs (maxSteps := 1000000) only [go_sem, ↓reduceIte, Nat.reduceAdd, Nat.reduceSub, Nat.reduceMul, Nat.reduceLT, Nat.reduceLeDiff, Nat.reduceEqDiff, Nat.reduceBEq, Nat.reduceBNe, Int.reduceToNat, Int.reduceLT, Int.reduceLE, Int.reduceNeg, reduceCtorEq, Int.reduceEq, Int.reduceNe])
  · obtain rfl : i = wdP S := by omega
    have d1 : ((wdP S : Nat) : Int).tdiv 2 = ((wdP S / 2 : Nat) : Int) := tdivN (wdP S) 2
    have d2 := tdivN S.length (wdP S + 1)
    obtain ⟨wd, hwd⟩ : ∃ wd, wd = wdP S := ⟨_, rfl⟩
    obtain ⟨w, hw⟩ : ∃ w, w = wdP S / 2 := ⟨_, rfl⟩
    obtain ⟨h, hh⟩ : ∃ h, h = S.length / (wdP S + 1) := ⟨_, rfl⟩
    have hstop := @wd_stop S
    have hcond : refC S = (decide (1 ≤ w) && decide (w ≤ 256) && decide (1 ≤ h) && decide (h ≤ 256) && decide (S.length = h * (wd + 1))) := by rw [hw, hh, hwd]; rfl
    have hct : ∀ q : Prop, (refC S = true → q) → (1 ≤ w ∧ w ≤ 256 ∧ 1 ≤ h ∧ h ≤ 256 ∧ S.length = h * (wd + 1)) → q := fun q hq hh => hq (by rw [hcond]; simp only [decide_eq_true hh.1, decide_eq_true hh.2.1, decide_eq_true hh.2.2.1, decide_eq_true hh.2.2.2.1, decide_eq_true hh.2.2.2.2, Bool.and_self])
    rw [← hw, ← hh, ← hwd] at hB hC
    have hhl : h * (wd + 1) ≤ S.length := by rw [hh, hwd]; exact Nat.div_mul_le_self _ _
    rw [← hw] at d1
    rw [← hh] at d2
    rw [← hwd] at d1 d2 hstop ei hi hwl ⊢
    have d3 : wr (w : Int) = w := wrN (by omega)
    have d4 : wr (h : Int) = h := wrN (by
      have : h ≤ S.length := by rw [hh]; exact Nat.div_le_self _ _
      omega)
    have d5 : ¬ ((wd + 1 : Nat) : Int) = 0 := by omega
    have b1 := wrM (a := h) (b := wd + 1) (by omega)
    have h10 : (((10 : UInt8).toNat : Nat) : Int) = 10 := rfl
    by_cases l1 : (wd : Int) < (S.length : Int)
    · have hc := hstop (by omega)
      simp -dsimp -implicitDefEqProofs (maxSteps := 1000000) only [go_sem, ↓reduceIte, Nat.reduceAdd, Nat.reduceSub, Nat.reduceMul, Nat.reduceLT, Nat.reduceLeDiff, Nat.reduceEqDiff, Nat.reduceBEq, Nat.reduceBNe, Int.reduceToNat, Int.reduceLT, Int.reduceLE, Int.reduceNeg, reduceCtorEq, Int.reduceEq, Int.reduceNe, l1, strGet hc, Int.natCast_nonneg, Int.toNat_natCast, h10]
      intros
      refine AtCode.draw 9 [([], []), ([0], []), ([], []), ([2], []), ([], []), ([4], []), ([2, 3, 4, 5], []), ([0, 1], []), ([0, 1, 2, 3, 4, 5, 6, 7], [])] (by kernel_rfl) ?_
      simp -dsimp -implicitDefEqProofs (maxSteps := 1000000) only [go_sem, ↓reduceIte, Nat.reduceAdd, Nat.reduceSub, Nat.reduceMul, Nat.reduceLT, Nat.reduceLeDiff, Nat.reduceEqDiff, Nat.reduceBEq, Nat.reduceBNe, Int.reduceToNat, Int.reduceLT, Int.reduceLE, Int.reduceNeg, reduceCtorEq, Int.reduceEq, Int.reduceNe, d1, d2, d3, d4, d5, ei, size_str]
      by_cases g1 : (w : Int) < 1
      · simp -dsimp -implicitDefEqProofs (maxSteps := 1000000) only [go_sem, ↓reduceIte, Nat.reduceAdd, Nat.reduceSub, Nat.reduceMul, Nat.reduceLT, Nat.reduceLeDiff, Nat.reduceEqDiff, Nat.reduceBEq, Nat.reduceBNe, Int.reduceToNat, Int.reduceLT, Int.reduceLE, Int.reduceNeg, reduceCtorEq, Int.reduceEq, Int.reduceNe, g1]
        intros
        exact (hA (by rw [hcond]; simp; omega)).symm
      by_cases g2 : (256 : Int) < w
      · simp -dsimp -implicitDefEqProofs (maxSteps := 1000000) only [go_sem, ↓reduceIte, Nat.reduceAdd, Nat.reduceSub, Nat.reduceMul, Nat.reduceLT, Nat.reduceLeDiff, Nat.reduceEqDiff, Nat.reduceBEq, Nat.reduceBNe, Int.reduceToNat, Int.reduceLT, Int.reduceLE, Int.reduceNeg, reduceCtorEq, Int.reduceEq, Int.reduceNe, g1, g2]
        intros
        exact (hA (by rw [hcond]; simp; omega)).symm
      by_cases g3 : (h : Int) < 1
      · simp -dsimp -implicitDefEqProofs (maxSteps := 1000000) only [go_sem, ↓reduceIte, Nat.reduceAdd, Nat.reduceSub, Nat.reduceMul, Nat.reduceLT, Nat.reduceLeDiff, Nat.reduceEqDiff, Nat.reduceBEq, Nat.reduceBNe, Int.reduceToNat, Int.reduceLT, Int.reduceLE, Int.reduceNeg, reduceCtorEq, Int.reduceEq, Int.reduceNe, g1, g2, g3]
        intros
        exact (hA (by rw [hcond]; simp; omega)).symm
      by_cases g4 : (256 : Int) < h
      · simp -dsimp -implicitDefEqProofs (maxSteps := 1000000) only [go_sem, ↓reduceIte, Nat.reduceAdd, Nat.reduceSub, Nat.reduceMul, Nat.reduceLT, Nat.reduceLeDiff, Nat.reduceEqDiff, Nat.reduceBEq, Nat.reduceBNe, Int.reduceToNat, Int.reduceLT, Int.reduceLE, Int.reduceNeg, reduceCtorEq, Int.reduceEq, Int.reduceNe, g1, g2, g3, g4]
        intros
        exact (hA (by rw [hcond]; simp; omega)).symm
      by_cases g5 : ((S.length : Nat) : Int) = ((h * (wd + 1) : Nat) : Int)
      rotate_left
      · simp -dsimp -implicitDefEqProofs (maxSteps := 1000000) only [go_sem, ↓reduceIte, Nat.reduceAdd, Nat.reduceSub, Nat.reduceMul, Nat.reduceLT, Nat.reduceLeDiff, Nat.reduceEqDiff, Nat.reduceBEq, Nat.reduceBNe, Int.reduceToNat, Int.reduceLT, Int.reduceLE, Int.reduceNeg, reduceCtorEq, Int.reduceEq, Int.reduceNe, g1, g2, g3, g4, g5, b1, ei, size_str]
        intros
        exact (hA (by rw [hcond]; simp; omega)).symm
      simp -dsimp -implicitDefEqProofs (maxSteps := 1000000) only [go_sem, ↓reduceIte, Nat.reduceAdd, Nat.reduceSub, Nat.reduceMul, Nat.reduceLT, Nat.reduceLeDiff, Nat.reduceEqDiff, Nat.reduceBEq, Nat.reduceBNe, Int.reduceToNat, Int.reduceLT, Int.reduceLE, Int.reduceNeg, reduceCtorEq, Int.reduceEq, Int.reduceNe, g1, g2, g3, g4, g5, b1, ei, size_str]
      intros
      have hlen : S.length = h * (wd + 1) := by omega
      have hN := prodN (w := w) (h := h) (by omega) (by omega)
      have hm := made59 w h hN 0
      refine AtFn.newR (.g [I (w : Int), I (h : Int), .sl 10 0 (w * h)]) hm (renN3 10 _ _ _) ?_
      simp -dsimp -implicitDefEqProofs (maxSteps := 1000000) only [go_sem, ↓reduceIte, Nat.reduceAdd, Nat.reduceSub, Nat.reduceMul, Nat.reduceLT, Nat.reduceLeDiff, Nat.reduceEqDiff, Nat.reduceBEq, Nat.reduceBNe, Int.reduceToNat, Int.reduceLT, Int.reduceLE, Int.reduceNeg, reduceCtorEq, Int.reduceEq, Int.reduceNe]
      have hC2 := hct _ hC ⟨by omega, by omega, by omega, by omega, hlen⟩
      have hB2 := hct _ hB ⟨by omega, by omega, by omega, by omega, hlen⟩
      refine ⟨{k : Nat // k ≤ h}, fun k => ⟨103, tl [(0, Str S), (2, .ptr 0 0 0), (3, I 0), (4, I wd), (5, I w), (6, I h), (7, .ptr 2 0 0), (57, I h), (58, I k.1)], [(2, ⟨3, [[I w, I h, .sl 1 0 (w * h)]]⟩), (1, ⟨1, pxC (fillO (w * h) (pxF S w h wd) (fun _ => 0) (rowO w h) (k.1 * w))⟩), (0, ⟨3, [[I 0, I 0, .v (.slice none 0 0)]]⟩)], 3, .nil⟩, fun k => h - k.1,
        ⟨⟨0, by omega⟩, Le.tl (Ls := []) (y := none) [(1, 10), (2, 11)] (by simp -dsimp -implicitDefEqProofs (maxSteps := 1000000) only [go_sem, ↓reduceIte, Nat.reduceAdd, Nat.reduceSub, Nat.reduceMul, Nat.reduceLT, Nat.reduceLeDiff, Nat.reduceEqDiff, Nat.reduceBEq, Nat.reduceBNe, Int.reduceToNat, Int.reduceLT, Int.reduceLE, Int.reduceNeg, reduceCtorEq, Int.reduceEq, Int.reduceNe]) ?_ (by simp) (by simp [sg]) trivial⟩, fun k => ?_⟩
      · simp -dsimp -implicitDefEqProofs (maxSteps := 1000000) only [go_sem, ↓reduceIte, Nat.reduceAdd, Nat.reduceSub, Nat.reduceMul, Nat.reduceLT, Nat.reduceLeDiff, Nat.reduceEqDiff, Nat.reduceBEq, Nat.reduceBNe, Int.reduceToNat, Int.reduceLT, Int.reduceLE, Int.reduceNeg, reduceCtorEq, Int.reduceEq, Int.reduceNe]
        exact ⟨renL_F (by simp -dsimp -implicitDefEqProofs (maxSteps := 1000000) only [go_sem, ↓reduceIte, Nat.reduceAdd, Nat.reduceSub, Nat.reduceMul, Nat.reduceLT, Nat.reduceLeDiff, Nat.reduceEqDiff, Nat.reduceBEq, Nat.reduceBNe, Int.reduceToNat, Int.reduceLT, Int.reduceLE, Int.reduceNeg, reduceCtorEq, Int.reduceEq, Int.reduceNe]), renL_cl2 (by rw [Nat.zero_mul, fillO_0, show IntKind.u8.wrap 0 = 0 from rfl, pxRep]) (clPx _), renL_F (by simp -dsimp -implicitDefEqProofs (maxSteps := 1000000) only [go_sem, ↓reduceIte, Nat.reduceAdd, Nat.reduceSub, Nat.reduceMul, Nat.reduceLT, Nat.reduceLeDiff, Nat.reduceEqDiff, Nat.reduceBEq, Nat.reduceBNe, Int.reduceToNat, Int.reduceLT, Int.reduceLE, Int.reduceNeg, reduceCtorEq, Int.reduceEq, Int.reduceNe])⟩
      obtain ⟨k, hk⟩ := k
      simp -dsimp -implicitDefEqProofs (maxSteps := 1000000) only [go_sem, ↓reduceIte, Nat.reduceAdd, Nat.reduceSub, Nat.reduceMul, Nat.reduceLT, Nat.reduceLeDiff, Nat.reduceEqDiff, Nat.reduceBEq, Nat.reduceBNe, Int.reduceToNat, Int.reduceLT, Int.reduceLE, Int.reduceNeg, reduceCtorEq, Int.reduceEq, Int.reduceNe]
      refine ⟨fun hk' => ?_, fun hout => ?_⟩
      rotate_left
      · obtain rfl : k = h := by omega
        have hfin : fillO (w * k) (pxF S w k wd) (fun _ => 0) (rowO w k) (k * w) = rdP S w k wd := fillO_n fun q hq => Or.inl (rowO_lt hq)
        rw [hfin]
        have hrl : (rdP S w k wd).length = w * k := by simp [rdP]
        refine AtFn.keep (written61 w k (rdP S w k wd) (by omega) (by omega) (by omega) (by omega) hrl (ok_rd _ _ _ _)) ?_
        simp -dsimp -implicitDefEqProofs (maxSteps := 1000000) only [go_sem, ↓reduceIte, Nat.reduceAdd, Nat.reduceSub, Nat.reduceMul, Nat.reduceLT, Nat.reduceLeDiff, Nat.reduceEqDiff, Nat.reduceBEq, Nat.reduceBNe, Int.reduceToNat, Int.reduceLT, Int.reduceLE, Int.reduceNeg, reduceCtorEq, Int.reduceEq, Int.reduceNe, pxC_len, hrl, takePx _ _ hrl, Nat.zero_add, Nat.le_refl]
        by_cases htx : (rowsP w (rdP S w k wd)).flatMap rowT = S
        · have hs := (str_eq ((rowsP w (rdP S w k wd)).flatMap rowT) S).2 htx
          simp -dsimp -implicitDefEqProofs (maxSteps := 1000000) only [go_sem, ↓reduceIte, Nat.reduceAdd, Nat.reduceSub, Nat.reduceMul, Nat.reduceLT, Nat.reduceLeDiff, Nat.reduceEqDiff, Nat.reduceBEq, Nat.reduceBNe, Int.reduceToNat, Int.reduceLT, Int.reduceLE, Int.reduceNeg, reduceCtorEq, Int.reduceEq, Int.reduceNe, hs, pxC_len, hrl, takePx _ _ hrl, Nat.zero_add, Nat.le_refl]
          exact (hC2 htx).symm
        · have hs := (str_eqF ((rowsP w (rdP S w k wd)).flatMap rowT) S).2 htx
          simp -dsimp -implicitDefEqProofs (maxSteps := 1000000) only [go_sem, ↓reduceIte, Nat.reduceAdd, Nat.reduceSub, Nat.reduceMul, Nat.reduceLT, Nat.reduceLeDiff, Nat.reduceEqDiff, Nat.reduceBEq, Nat.reduceBNe, Int.reduceToNat, Int.reduceLT, Int.reduceLE, Int.reduceNeg, reduceCtorEq, Int.reduceEq, Int.reduceNe, hs]
          exact (hB2 htx).symm
      have hkl : k < h := by omega
      have ek := wrA1 (a := k) (by omega)
      refine ⟨{i : Nat // i ≤ w}, fun i => ⟨103, tl [(0, Str S), (2, .ptr 0 0 0), (3, I 0), (4, I wd), (5, I w), (6, I h), (7, .ptr 2 0 0), (8, I k), (57, I h), (58, I k), (61, I w), (62, I i.1)], [(2, ⟨3, [[I w, I h, .sl 1 0 (w * h)]]⟩), (1, ⟨1, pxC (fillO (w * h) (pxF S w h wd) (fun _ => 0) (rowO w h) (k * w + i.1))⟩), (0, ⟨3, [[I 0, I 0, .v (.slice none 0 0)]]⟩)], 3, .nil⟩, fun i => w - i.1,
        ⟨⟨0, by omega⟩, Le.tl (Ls := []) (y := none) [] (by simp -dsimp -implicitDefEqProofs (maxSteps := 1000000) only [go_sem, ↓reduceIte, Nat.reduceAdd, Nat.reduceSub, Nat.reduceMul, Nat.reduceLT, Nat.reduceLeDiff, Nat.reduceEqDiff, Nat.reduceBEq, Nat.reduceBNe, Int.reduceToNat, Int.reduceLT, Int.reduceLE, Int.reduceNeg, reduceCtorEq, Int.reduceEq, Int.reduceNe]) ?_ (by simp) (by simp [sg]) trivial⟩, fun i => ?_⟩
      · simp -dsimp -implicitDefEqProofs (maxSteps := 1000000) only [go_sem, ↓reduceIte, Nat.reduceAdd, Nat.reduceSub, Nat.reduceMul, Nat.reduceLT, Nat.reduceLeDiff, Nat.reduceEqDiff, Nat.reduceBEq, Nat.reduceBNe, Int.reduceToNat, Int.reduceLT, Int.reduceLE, Int.reduceNeg, reduceCtorEq, Int.reduceEq, Int.reduceNe]
        exact ⟨renL_F (by simp -dsimp -implicitDefEqProofs (maxSteps := 1000000) only [go_sem, ↓reduceIte, Nat.reduceAdd, Nat.reduceSub, Nat.reduceMul, Nat.reduceLT, Nat.reduceLeDiff, Nat.reduceEqDiff, Nat.reduceBEq, Nat.reduceBNe, Int.reduceToNat, Int.reduceLT, Int.reduceLE, Int.reduceNeg, reduceCtorEq, Int.reduceEq, Int.reduceNe]), renL_cl2 rfl (clPx _), renL_F (by simp -dsimp -implicitDefEqProofs (maxSteps := 1000000) only [go_sem, ↓reduceIte, Nat.reduceAdd, Nat.reduceSub, Nat.reduceMul, Nat.reduceLT, Nat.reduceLeDiff, Nat.reduceEqDiff, Nat.reduceBEq, Nat.reduceBNe, Int.reduceToNat, Int.reduceLT, Int.reduceLE, Int.reduceNeg, reduceCtorEq, Int.reduceEq, Int.reduceNe])⟩
      obtain ⟨i, hi⟩ := i
      simp -dsimp -implicitDefEqProofs (maxSteps := 1000000) only [go_sem, ↓reduceIte, Nat.reduceAdd, Nat.reduceSub, Nat.reduceMul, Nat.reduceLT, Nat.reduceLeDiff, Nat.reduceEqDiff, Nat.reduceBEq, Nat.reduceBNe, Int.reduceToNat, Int.reduceLT, Int.reduceLE, Int.reduceNeg, reduceCtorEq, Int.reduceEq, Int.reduceNe]
      refine ⟨fun hi' => ?_, fun hout => ?_⟩
      rotate_left
      · obtain rfl : i = w := by omega
        refine ⟨⟨k + 1, by omega⟩, by show h - (k + 1) < h - k; omega, Le.tl (Ls := []) (y := none) [] (by simp -dsimp -implicitDefEqProofs (maxSteps := 1000000) only [go_sem, ↓reduceIte, Nat.reduceAdd, Nat.reduceSub, Nat.reduceMul, Nat.reduceLT, Nat.reduceLeDiff, Nat.reduceEqDiff, Nat.reduceBEq, Nat.reduceBNe, Int.reduceToNat, Int.reduceLT, Int.reduceLE, Int.reduceNeg, reduceCtorEq, Int.reduceEq, Int.reduceNe, ek]) ?_ (by simp) (by simp [sg]) trivial⟩
        simp -dsimp -implicitDefEqProofs (maxSteps := 1000000) only [go_sem, ↓reduceIte, Nat.reduceAdd, Nat.reduceSub, Nat.reduceMul, Nat.reduceLT, Nat.reduceLeDiff, Nat.reduceEqDiff, Nat.reduceBEq, Nat.reduceBNe, Int.reduceToNat, Int.reduceLT, Int.reduceLE, Int.reduceNeg, reduceCtorEq, Int.reduceEq, Int.reduceNe]
        exact ⟨renL_F (by simp -dsimp -implicitDefEqProofs (maxSteps := 1000000) only [go_sem, ↓reduceIte, Nat.reduceAdd, Nat.reduceSub, Nat.reduceMul, Nat.reduceLT, Nat.reduceLeDiff, Nat.reduceEqDiff, Nat.reduceBEq, Nat.reduceBNe, Int.reduceToNat, Int.reduceLT, Int.reduceLE, Int.reduceNeg, reduceCtorEq, Int.reduceEq, Int.reduceNe]), renL_cl2 (by rw [Nat.succ_mul]) (clPx _), renL_F (by simp -dsimp -implicitDefEqProofs (maxSteps := 1000000) only [go_sem, ↓reduceIte, Nat.reduceAdd, Nat.reduceSub, Nat.reduceMul, Nat.reduceLT, Nat.reduceLeDiff, Nat.reduceEqDiff, Nat.reduceBEq, Nat.reduceBNe, Int.reduceToNat, Int.reduceLT, Int.reduceLE, Int.reduceNeg, reduceCtorEq, Int.reduceEq, Int.reduceNe])⟩
      have hil : i < w := by omega
      have ei2 := wrA1 (a := i) (by omega)
      have hq1 := idx_lt (i := i) (j := h - 1 - k) (w := w) (h := h) hil (by omega)
      have s1 := wrS1 (a := h) (by omega) (by omega)
      have s2 := wrS (a := h - 1) (b := k) (by omega) (by omega)
      have b3 := wrM (a := h - 1 - k) (b := w) (by omega)
      have b4 := wrA (a := (h - 1 - k) * w) (b := i) (by omega)
      have hkw : (k + 1) * (wd + 1) ≤ h * (wd + 1) := Nat.mul_le_mul_right _ hkl
      rw [Nat.succ_mul] at hkw
      have h2i : 2 * i + 2 ≤ wd := by omega
      have b5 := wrM (a := k) (b := wd + 1) (by omega)
      have b6 : wr (2 * (i : Int)) = ((2 * i : Nat) : Int) := by rw [wr_in] <;> omega
      have b7 := wrA (a := k * (wd + 1)) (b := 2 * i) (by omega)
      have b8 := wrA1 (a := k * (wd + 1) + 2 * i) (by omega)
      have c1 := strGet (S := S) (i := k * (wd + 1) + 2 * i) (c := S.getD (k * (wd + 1) + 2 * i) 0) (by rw [List.getD, List.getElem?_eq_getElem (by omega)]; rfl)
      have c2 := strGet (S := S) (i := k * (wd + 1) + 2 * i + 1) (c := S.getD (k * (wd + 1) + 2 * i + 1) 0) (by rw [List.getD, List.getElem?_eq_getElem (by omega)]; rfl)
      have m1 := dgF_lt (S.getD (k * (wd + 1) + 2 * i) 0)
      have m2 := dgF_lt (S.getD (k * (wd + 1) + 2 * i + 1) 0)
      have q1 := dig60 (S.getD (k * (wd + 1) + 2 * i) 0)
      have q2 := dig60 (S.getD (k * (wd + 1) + 2 * i + 1) 0)
      have hval : pxF S w h wd ((h - 1 - k) * w + i) = ((16 * dgF (S.getD (k * (wd + 1) + 2 * i) 0) + dgF (S.getD (k * (wd + 1) + 2 * i + 1) 0) : Nat) : Int) := by
        obtain ⟨x1, x2⟩ := at_idx (j := h - 1 - k) hil
        unfold pxF atF
        rw [x1, x2, show h - 1 - (h - 1 - k) = k by omega]
      obtain ⟨e1, he1⟩ : ∃ e, dgF (S.getD (k * (wd + 1) + 2 * i) 0) = e := ⟨_, rfl⟩
      obtain ⟨e2, he2⟩ : ∃ e, dgF (S.getD (k * (wd + 1) + 2 * i + 1) 0) = e := ⟨_, rfl⟩
      rw [he1] at m1 q1 hval
      rw [he2] at m2 q2 hval
      have z1 : wr (16 * (e1 : Int)) = ((16 * e1 : Nat) : Int) := by rw [wr_in] <;> omega
      have z2 := wrA (a := 16 * e1) (b := e2) (by omega)
      have z3 : IntKind.u8.wrap ((16 * e1 + e2 : Nat) : Int) = ((16 * e1 + e2 : Nat) : Int) := u8_ink (by simp [inkB]; omega)
      have l3 : (((h - 1 - k) * w + i : Nat) : Int) < ((w * h : Nat) : Int) := by omega
      obtain ⟨v0, g9⟩ := fillO_get (f := pxF S w h wd) (z := fun _ => 0) (ord := rowO w h) (n := k * w + i) hq1
      simp -dsimp -implicitDefEqProofs (maxSteps := 1000000) only [go_sem, ↓reduceIte, Nat.reduceAdd, Nat.reduceSub, Nat.reduceMul, Nat.reduceLT, Nat.reduceLeDiff, Nat.reduceEqDiff, Nat.reduceBEq, Nat.reduceBNe, Int.reduceToNat, Int.reduceLT, Int.reduceLE, Int.reduceNeg, reduceCtorEq, Int.reduceEq, Int.reduceNe, hi', ei, b5, b6, b7]
      refine AtCode.draw 23 [([], []), ([0], []), ([], []), ([2], []), ([], []), ([2, 3, 4], []), ([], []), ([2, 3, 4, 5, 6], []), ([], []), ([2, 3, 4, 5, 6, 7, 8], []), ([], []), ([], []), ([10, 11], []), ([10, 11, 12], []), ([10, 11, 12, 13], []), ([], []), ([], []), ([16], []), ([15, 16, 17], []), ([10, 11, 12, 13, 15, 16, 17, 18], []), ([10, 11, 12, 13, 14, 15, 16, 17, 18, 19], []), ([10, 11, 12, 13, 14, 15, 16, 17, 18, 19, 20], []), ([0, 1, 2, 3, 4, 5, 6, 7, 8, 9, 10, 11, 12, 13, 14, 15, 16, 17, 18, 19, 20, 21], []), ([0, 1, 2, 3, 4, 5, 6, 7, 8, 9, 10, 11, 12, 13, 14, 15, 16, 17, 18, 19, 20, 21, 22], [])] (by kernel_rfl) ?_
      simp -dsimp -implicitDefEqProofs (maxSteps := 1000000) only [go_sem, ↓reduceIte, Nat.reduceAdd, Nat.reduceSub, Nat.reduceMul, Nat.reduceLT, Nat.reduceLeDiff, Nat.reduceEqDiff, Nat.reduceBEq, Nat.reduceBNe, Int.reduceToNat, Int.reduceLT, Int.reduceLE, Int.reduceNeg, reduceCtorEq, Int.reduceEq, Int.reduceNe, s1, s2, b3, b4, c1, Int.natCast_nonneg, Int.toNat_natCast]
      refine QFn.use _ q1 (by simp -dsimp -implicitDefEqProofs (maxSteps := 1000000) only [go_sem, ↓reduceIte, Nat.reduceAdd, Nat.reduceSub, Nat.reduceMul, Nat.reduceLT, Nat.reduceLeDiff, Nat.reduceEqDiff, Nat.reduceBEq, Nat.reduceBNe, Int.reduceToNat, Int.reduceLT, Int.reduceLE, Int.reduceNeg, reduceCtorEq, Int.reduceEq, Int.reduceNe]) ?_
      simp -dsimp -implicitDefEqProofs (maxSteps := 1000000) only [go_sem, ↓reduceIte, Nat.reduceAdd, Nat.reduceSub, Nat.reduceMul, Nat.reduceLT, Nat.reduceLeDiff, Nat.reduceEqDiff, Nat.reduceBEq, Nat.reduceBNe, Int.reduceToNat, Int.reduceLT, Int.reduceLE, Int.reduceNeg, reduceCtorEq, Int.reduceEq, Int.reduceNe, z1, b8, c2, Int.natCast_nonneg, Int.toNat_natCast]
      refine QFn.use _ q2 (by simp -dsimp -implicitDefEqProofs (maxSteps := 1000000) only [go_sem, ↓reduceIte, Nat.reduceAdd, Nat.reduceSub, Nat.reduceMul, Nat.reduceLT, Nat.reduceLeDiff, Nat.reduceEqDiff, Nat.reduceBEq, Nat.reduceBNe, Int.reduceToNat, Int.reduceLT, Int.reduceLE, Int.reduceNeg, reduceCtorEq, Int.reduceEq, Int.reduceNe]) ?_
      simp -dsimp -implicitDefEqProofs (maxSteps := 1000000) only [go_sem, ↓reduceIte, Nat.reduceAdd, Nat.reduceSub, Nat.reduceMul, Nat.reduceLT, Nat.reduceLeDiff, Nat.reduceEqDiff, Nat.reduceBEq, Nat.reduceBNe, Int.reduceToNat, Int.reduceLT, Int.reduceLE, Int.reduceNeg, reduceCtorEq, Int.reduceEq, Int.reduceNe, z2, z3, l3, g9, pxC_len, fillO_len, pxC_get, Int.natCast_nonneg, Int.toNat_natCast, Nat.zero_add]
      refine ⟨⟨i + 1, by omega⟩, by show w - (i + 1) < w - i; omega, Le.tl (Ls := []) (y := none) [] (by simp -dsimp -implicitDefEqProofs (maxSteps := 1000000) only [go_sem, ↓reduceIte, Nat.reduceAdd, Nat.reduceSub, Nat.reduceMul, Nat.reduceLT, Nat.reduceLeDiff, Nat.reduceEqDiff, Nat.reduceBEq, Nat.reduceBNe, Int.reduceToNat, Int.reduceLT, Int.reduceLE, Int.reduceNeg, reduceCtorEq, Int.reduceEq, Int.reduceNe, ei2]) ?_ (by simp) (by simp [sg]) trivial⟩
      simp -dsimp -implicitDefEqProofs (maxSteps := 1000000) only [go_sem, ↓reduceIte, Nat.reduceAdd, Nat.reduceSub, Nat.reduceMul, Nat.reduceLT, Nat.reduceLeDiff, Nat.reduceEqDiff, Nat.reduceBEq, Nat.reduceBNe, Int.reduceToNat, Int.reduceLT, Int.reduceLE, Int.reduceNeg, reduceCtorEq, Int.reduceEq, Int.reduceNe]
      exact ⟨renL_F (by simp -dsimp -implicitDefEqProofs (maxSteps := 1000000) only [go_sem, ↓reduceIte, Nat.reduceAdd, Nat.reduceSub, Nat.reduceMul, Nat.reduceLT, Nat.reduceLeDiff, Nat.reduceEqDiff, Nat.reduceBEq, Nat.reduceBNe, Int.reduceToNat, Int.reduceLT, Int.reduceLE, Int.reduceNeg, reduceCtorEq, Int.reduceEq, Int.reduceNe]), renL_cl2 (fillO_set hq1 (fun q hq => rowO_iff hil hkl hq) hval.symm) (clPx _), renL_F (by simp -dsimp -implicitDefEqProofs (maxSteps := 1000000) only [go_sem, ↓reduceIte, Nat.reduceAdd, Nat.reduceSub, Nat.reduceMul, Nat.reduceLT, Nat.reduceLeDiff, Nat.reduceEqDiff, Nat.reduceBEq, Nat.reduceBNe, Int.reduceToNat, Int.reduceLT, Int.reduceLE, Int.reduceNeg, reduceCtorEq, Int.reduceEq, Int.reduceNe])⟩
    · simp -dsimp -implicitDefEqProofs (maxSteps := 1000000) only [go_sem, ↓reduceIte, Nat.reduceAdd, Nat.reduceSub, Nat.reduceMul, Nat.reduceLT, Nat.reduceLeDiff, Nat.reduceEqDiff, Nat.reduceBEq, Nat.reduceBNe, Int.reduceToNat, Int.reduceLT, Int.reduceLE, Int.reduceNeg, reduceCtorEq, Int.reduceEq, Int.reduceNe, l1]
      intros
      refine AtCode.draw 9 [([], []), ([0], []), ([], []), ([2], []), ([], []), ([4], []), ([2, 3, 4, 5], []), ([0, 1], []), ([0, 1, 2, 3, 4, 5, 6, 7], [])] (by kernel_rfl) ?_
      simp -dsimp -implicitDefEqProofs (maxSteps := 1000000) only [go_sem, ↓reduceIte, Nat.reduceAdd, Nat.reduceSub, Nat.reduceMul, Nat.reduceLT, Nat.reduceLeDiff, Nat.reduceEqDiff, Nat.reduceBEq, Nat.reduceBNe, Int.reduceToNat, Int.reduceLT, Int.reduceLE, Int.reduceNeg, reduceCtorEq, Int.reduceEq, Int.reduceNe, d1, d2, d3, d4, d5, ei, size_str]
      by_cases g1 : (w : Int) < 1
      · simp -dsimp -implicitDefEqProofs (maxSteps := 1000000) only [go_sem, ↓reduceIte, Nat.reduceAdd, Nat.reduceSub, Nat.reduceMul, Nat.reduceLT, Nat.reduceLeDiff, Nat.reduceEqDiff, Nat.reduceBEq, Nat.reduceBNe, Int.reduceToNat, Int.reduceLT, Int.reduceLE, Int.reduceNeg, reduceCtorEq, Int.reduceEq, Int.reduceNe, g1]
        intros
        exact (hA (by rw [hcond]; simp; omega)).symm
      by_cases g2 : (256 : Int) < w
      · simp -dsimp -implicitDefEqProofs (maxSteps := 1000000) only [go_sem, ↓reduceIte, Nat.reduceAdd, Nat.reduceSub, Nat.reduceMul, Nat.reduceLT, Nat.reduceLeDiff, Nat.reduceEqDiff, Nat.reduceBEq, Nat.reduceBNe, Int.reduceToNat, Int.reduceLT, Int.reduceLE, Int.reduceNeg, reduceCtorEq, Int.reduceEq, Int.reduceNe, g1, g2]
        intros
        exact (hA (by rw [hcond]; simp; omega)).symm
      by_cases g3 : (h : Int) < 1
      · simp -dsimp -implicitDefEqProofs (maxSteps := 1000000) only [go_sem, ↓reduceIte, Nat.reduceAdd, Nat.reduceSub, Nat.reduceMul, Nat.reduceLT, Nat.reduceLeDiff, Nat.reduceEqDiff, Nat.reduceBEq, Nat.reduceBNe, Int.reduceToNat, Int.reduceLT, Int.reduceLE, Int.reduceNeg, reduceCtorEq, Int.reduceEq, Int.reduceNe, g1, g2, g3]
        intros
        exact (hA (by rw [hcond]; simp; omega)).symm
      by_cases g4 : (256 : Int) < h
      · simp -dsimp -implicitDefEqProofs (maxSteps := 1000000) only [go_sem, ↓reduceIte, Nat.reduceAdd, Nat.reduceSub, Nat.reduceMul, Nat.reduceLT, Nat.reduceLeDiff, Nat.reduceEqDiff, Nat.reduceBEq, Nat.reduceBNe, Int.reduceToNat, Int.reduceLT, Int.reduceLE, Int.reduceNeg, reduceCtorEq, Int.reduceEq, Int.reduceNe, g1, g2, g3, g4]
        intros
        exact (hA (by rw [hcond]; simp; omega)).symm
      by_cases g5 : ((S.length : Nat) : Int) = ((h * (wd + 1) : Nat) : Int)
      rotate_left
      · simp -dsimp -implicitDefEqProofs (maxSteps := 1000000) only [go_sem, ↓reduceIte, Nat.reduceAdd, Nat.reduceSub, Nat.reduceMul, Nat.reduceLT, Nat.reduceLeDiff, Nat.reduceEqDiff, Nat.reduceBEq, Nat.reduceBNe, Int.reduceToNat, Int.reduceLT, Int.reduceLE, Int.reduceNeg, reduceCtorEq, Int.reduceEq, Int.reduceNe, g1, g2, g3, g4, g5, b1, ei, size_str]
        intros
        exact (hA (by rw [hcond]; simp; omega)).symm
      simp -dsimp -implicitDefEqProofs (maxSteps := 1000000) only [go_sem, ↓reduceIte, Nat.reduceAdd, Nat.reduceSub, Nat.reduceMul, Nat.reduceLT, Nat.reduceLeDiff, Nat.reduceEqDiff, Nat.reduceBEq, Nat.reduceBNe, Int.reduceToNat, Int.reduceLT, Int.reduceLE, Int.reduceNeg, reduceCtorEq, Int.reduceEq, Int.reduceNe, g1, g2, g3, g4, g5, b1, ei, size_str]
      intros
      have hlen : S.length = h * (wd + 1) := by omega
      have hN := prodN (w := w) (h := h) (by omega) (by omega)
      have hm := made59 w h hN 0
      refine AtFn.newR (.g [I (w : Int), I (h : Int), .sl 10 0 (w * h)]) hm (renN3 10 _ _ _) ?_
      simp -dsimp -implicitDefEqProofs (maxSteps := 1000000) only [go_sem, ↓reduceIte, Nat.reduceAdd, Nat.reduceSub, Nat.reduceMul, Nat.reduceLT, Nat.reduceLeDiff, Nat.reduceEqDiff, Nat.reduceBEq, Nat.reduceBNe, Int.reduceToNat, Int.reduceLT, Int.reduceLE, Int.reduceNeg, reduceCtorEq, Int.reduceEq, Int.reduceNe]
      have hC2 := hct _ hC ⟨by omega, by omega, by omega, by omega, hlen⟩
      have hB2 := hct _ hB ⟨by omega, by omega, by omega, by omega, hlen⟩
      refine ⟨{k : Nat // k ≤ h}, fun k => ⟨103, tl [(0, Str S), (2, .ptr 0 0 0), (3, I 0), (4, I wd), (5, I w), (6, I h), (7, .ptr 2 0 0), (57, I h), (58, I k.1)], [(2, ⟨3, [[I w, I h, .sl 1 0 (w * h)]]⟩), (1, ⟨1, pxC (fillO (w * h) (pxF S w h wd) (fun _ => 0) (rowO w h) (k.1 * w))⟩), (0, ⟨3, [[I 0, I 0, .v (.slice none 0 0)]]⟩)], 3, .nil⟩, fun k => h - k.1,
        ⟨⟨0, by omega⟩, Le.tl (Ls := []) (y := none) [(1, 10), (2, 11)] (by simp -dsimp -implicitDefEqProofs (maxSteps := 1000000) only [go_sem, ↓reduceIte, Nat.reduceAdd, Nat.reduceSub, Nat.reduceMul, Nat.reduceLT, Nat.reduceLeDiff, Nat.reduceEqDiff, Nat.reduceBEq, Nat.reduceBNe, Int.reduceToNat, Int.reduceLT, Int.reduceLE, Int.reduceNeg, reduceCtorEq, Int.reduceEq, Int.reduceNe]) ?_ (by simp) (by simp [sg]) trivial⟩, fun k => ?_⟩
      · simp -dsimp -implicitDefEqProofs (maxSteps := 1000000) only [go_sem, ↓reduceIte, Nat.reduceAdd, Nat.reduceSub, Nat.reduceMul, Nat.reduceLT, Nat.reduceLeDiff, Nat.reduceEqDiff, Nat.reduceBEq, Nat.reduceBNe, Int.reduceToNat, Int.reduceLT, Int.reduceLE, Int.reduceNeg, reduceCtorEq, Int.reduceEq, Int.reduceNe]
        exact ⟨renL_F (by simp -dsimp -implicitDefEqProofs (maxSteps := 1000000) only [go_sem, ↓reduceIte, Nat.reduceAdd, Nat.reduceSub, Nat.reduceMul, Nat.reduceLT, Nat.reduceLeDiff, Nat.reduceEqDiff, Nat.reduceBEq, Nat.reduceBNe, Int.reduceToNat, Int.reduceLT, Int.reduceLE, Int.reduceNeg, reduceCtorEq, Int.reduceEq, Int.reduceNe]), renL_cl2 (by rw [Nat.zero_mul, fillO_0, show IntKind.u8.wrap 0 = 0 from rfl, pxRep]) (clPx _), renL_F (by simp -dsimp -implicitDefEqProofs (maxSteps := 1000000) only [go_sem, ↓reduceIte, Nat.reduceAdd, Nat.reduceSub, Nat.reduceMul, Nat.reduceLT, Nat.reduceLeDiff, Nat.reduceEqDiff, Nat.reduceBEq, Nat.reduceBNe, Int.reduceToNat, Int.reduceLT, Int.reduceLE, Int.reduceNeg, reduceCtorEq, Int.reduceEq, Int.reduceNe])⟩
      obtain ⟨k, hk⟩ := k
      simp -dsimp -implicitDefEqProofs (maxSteps := 1000000) only [go_sem, ↓reduceIte, Nat.reduceAdd, Nat.reduceSub, Nat.reduceMul, Nat.reduceLT, Nat.reduceLeDiff, Nat.reduceEqDiff, Nat.reduceBEq, Nat.reduceBNe, Int.reduceToNat, Int.reduceLT, Int.reduceLE, Int.reduceNeg, reduceCtorEq, Int.reduceEq, Int.reduceNe]
      refine ⟨fun hk' => ?_, fun hout => ?_⟩
      rotate_left
      · obtain rfl : k = h := by omega
        have hfin : fillO (w * k) (pxF S w k wd) (fun _ => 0) (rowO w k) (k * w) = rdP S w k wd := fillO_n fun q hq => Or.inl (rowO_lt hq)
        rw [hfin]
        have hrl : (rdP S w k wd).length = w * k := by simp [rdP]
        refine AtFn.keep (written61 w k (rdP S w k wd) (by omega) (by omega) (by omega) (by omega) hrl (ok_rd _ _ _ _)) ?_
        simp -dsimp -implicitDefEqProofs (maxSteps := 1000000) only [go_sem, ↓reduceIte, Nat.reduceAdd, Nat.reduceSub, Nat.reduceMul, Nat.reduceLT, Nat.reduceLeDiff, Nat.reduceEqDiff, Nat.reduceBEq, Nat.reduceBNe, Int.reduceToNat, Int.reduceLT, Int.reduceLE, Int.reduceNeg, reduceCtorEq, Int.reduceEq, Int.reduceNe, pxC_len, hrl, takePx _ _ hrl, Nat.zero_add, Nat.le_refl]
        by_cases htx : (rowsP w (rdP S w k wd)).flatMap rowT = S
        · have hs := (str_eq ((rowsP w (rdP S w k wd)).flatMap rowT) S).2 htx
          simp -dsimp -implicitDefEqProofs (maxSteps := 1000000) only [go_sem, ↓reduceIte, Nat.reduceAdd, Nat.reduceSub, Nat.reduceMul, Nat.reduceLT, Nat.reduceLeDiff, Nat.reduceEqDiff, Nat.reduceBEq, Nat.reduceBNe, Int.reduceToNat, Int.reduceLT, Int.reduceLE, Int.reduceNeg, reduceCtorEq, Int.reduceEq, Int.reduceNe, hs, pxC_len, hrl, takePx _ _ hrl, Nat.zero_add, Nat.le_refl]
          exact (hC2 htx).symm
        · have hs := (str_eqF ((rowsP w (rdP S w k wd)).flatMap rowT) S).2 htx
          simp -dsimp -implicitDefEqProofs (maxSteps := 1000000) only [go_sem, ↓reduceIte, Nat.reduceAdd, Nat.reduceSub, Nat.reduceMul, Nat.reduceLT, Nat.reduceLeDiff, Nat.reduceEqDiff, Nat.reduceBEq, Nat.reduceBNe, Int.reduceToNat, Int.reduceLT, Int.reduceLE, Int.reduceNeg, reduceCtorEq, Int.reduceEq, Int.reduceNe, hs]
          exact (hB2 htx).symm
      have hkl : k < h := by omega
      have ek := wrA1 (a := k) (by omega)
      refine ⟨{i : Nat // i ≤ w}, fun i => ⟨103, tl [(0, Str S), (2, .ptr 0 0 0), (3, I 0), (4, I wd), (5, I w), (6, I h), (7, .ptr 2 0 0), (8, I k), (57, I h), (58, I k), (61, I w), (62, I i.1)], [(2, ⟨3, [[I w, I h, .sl 1 0 (w * h)]]⟩), (1, ⟨1, pxC (fillO (w * h) (pxF S w h wd) (fun _ => 0) (rowO w h) (k * w + i.1))⟩), (0, ⟨3, [[I 0, I 0, .v (.slice none 0 0)]]⟩)], 3, .nil⟩, fun i => w - i.1,
        ⟨⟨0, by omega⟩, Le.tl (Ls := []) (y := none) [] (by simp -dsimp -implicitDefEqProofs (maxSteps := 1000000) only [go_sem, ↓reduceIte, Nat.reduceAdd, Nat.reduceSub, Nat.reduceMul, Nat.reduceLT, Nat.reduceLeDiff, Nat.reduceEqDiff, Nat.reduceBEq, Nat.reduceBNe, Int.reduceToNat, Int.reduceLT, Int.reduceLE, Int.reduceNeg, reduceCtorEq, Int.reduceEq, Int.reduceNe]) ?_ (by simp) (by simp [sg]) trivial⟩, fun i => ?_⟩
      · simp -dsimp -implicitDefEqProofs (maxSteps := 1000000) only [go_sem, ↓reduceIte, Nat.reduceAdd, Nat.reduceSub, Nat.reduceMul, Nat.reduceLT, Nat.reduceLeDiff, Nat.reduceEqDiff, Nat.reduceBEq, Nat.reduceBNe, Int.reduceToNat, Int.reduceLT, Int.reduceLE, Int.reduceNeg, reduceCtorEq, Int.reduceEq, Int.reduceNe]
        exact ⟨renL_F (by simp -dsimp -implicitDefEqProofs (maxSteps := 1000000) only [go_sem, ↓reduceIte, Nat.reduceAdd, Nat.reduceSub, Nat.reduceMul, Nat.reduceLT, Nat.reduceLeDiff, Nat.reduceEqDiff, Nat.reduceBEq, Nat.reduceBNe, Int.reduceToNat, Int.reduceLT, Int.reduceLE, Int.reduceNeg, reduceCtorEq, Int.reduceEq, Int.reduceNe]), renL_cl2 rfl (clPx _), renL_F (by simp -dsimp -implicitDefEqProofs (maxSteps := 1000000) only [go_sem, ↓reduceIte, Nat.reduceAdd, Nat.reduceSub, Nat.reduceMul, Nat.reduceLT, Nat.reduceLeDiff, Nat.reduceEqDiff, Nat.reduceBEq, Nat.reduceBNe, Int.reduceToNat, Int.reduceLT, Int.reduceLE, Int.reduceNeg, reduceCtorEq, Int.reduceEq, Int.reduceNe])⟩
      obtain ⟨i, hi⟩ := i
      simp -dsimp -implicitDefEqProofs (maxSteps := 1000000) only [go_sem, ↓reduceIte, Nat.reduceAdd, Nat.reduceSub, Nat.reduceMul, Nat.reduceLT, Nat.reduceLeDiff, Nat.reduceEqDiff, Nat.reduceBEq, Nat.reduceBNe, Int.reduceToNat, Int.reduceLT, Int.reduceLE, Int.reduceNeg, reduceCtorEq, Int.reduceEq, Int.reduceNe]
      refine ⟨fun hi' => ?_, fun hout => ?_⟩
      rotate_left
      · obtain rfl : i = w := by omega
        refine ⟨⟨k + 1, by omega⟩, by show h - (k + 1) < h - k; omega, Le.tl (Ls := []) (y := none) [] (by simp -dsimp -implicitDefEqProofs (maxSteps := 1000000) only [go_sem, ↓reduceIte, Nat.reduceAdd, Nat.reduceSub, Nat.reduceMul, Nat.reduceLT, Nat.reduceLeDiff, Nat.reduceEqDiff, Nat.reduceBEq, Nat.reduceBNe, Int.reduceToNat, Int.reduceLT, Int.reduceLE, Int.reduceNeg, reduceCtorEq, Int.reduceEq, Int.reduceNe, ek]) ?_ (by simp) (by simp [sg]) trivial⟩
        simp -dsimp -implicitDefEqProofs (maxSteps := 1000000) only [go_sem, ↓reduceIte, Nat.reduceAdd, Nat.reduceSub, Nat.reduceMul, Nat.reduceLT, Nat.reduceLeDiff, Nat.reduceEqDiff, Nat.reduceBEq, Nat.reduceBNe, Int.reduceToNat, Int.reduceLT, Int.reduceLE, Int.reduceNeg, reduceCtorEq, Int.reduceEq, Int.reduceNe]
        exact ⟨renL_F (by simp -dsimp -implicitDefEqProofs (maxSteps := 1000000) only [go_sem, ↓reduceIte, Nat.reduceAdd, Nat.reduceSub, Nat.reduceMul, Nat.reduceLT, Nat.reduceLeDiff, Nat.reduceEqDiff, Nat.reduceBEq, Nat.reduceBNe, Int.reduceToNat, Int.reduceLT, Int.reduceLE, Int.reduceNeg, reduceCtorEq, Int.reduceEq, Int.reduceNe]), renL_cl2 (by rw [Nat.succ_mul]) (clPx _), renL_F (by simp -dsimp -implicitDefEqProofs (maxSteps := 1000000) only [go_sem, ↓reduceIte, Nat.reduceAdd, Nat.reduceSub, Nat.reduceMul, Nat.reduceLT, Nat.reduceLeDiff, Nat.reduceEqDiff, Nat.reduceBEq, Nat.reduceBNe, Int.reduceToNat, Int.reduceLT, Int.reduceLE, Int.reduceNeg, reduceCtorEq, Int.reduceEq, Int.reduceNe])⟩
      have hil : i < w := by omega
      have ei2 := wrA1 (a := i) (by omega)
      have hq1 := idx_lt (i := i) (j := h - 1 - k) (w := w) (h := h) hil (by omega)
      have s1 := wrS1 (a := h) (by omega) (by omega)
      have s2 := wrS (a := h - 1) (b := k) (by omega) (by omega)
      have b3 := wrM (a := h - 1 - k) (b := w) (by omega)
      have b4 := wrA (a := (h - 1 - k) * w) (b := i) (by omega)
      have hkw : (k + 1) * (wd + 1) ≤ h * (wd + 1) := Nat.mul_le_mul_right _ hkl
      rw [Nat.succ_mul] at hkw
      have h2i : 2 * i + 2 ≤ wd := by omega
      have b5 := wrM (a := k) (b := wd + 1) (by omega)
      have b6 : wr (2 * (i : Int)) = ((2 * i : Nat) : Int) := by rw [wr_in] <;> omega
      have b7 := wrA (a := k * (wd + 1)) (b := 2 * i) (by omega)
      have b8 := wrA1 (a := k * (wd + 1) + 2 * i) (by omega)
      have c1 := strGet (S := S) (i := k * (wd + 1) + 2 * i) (c := S.getD (k * (wd + 1) + 2 * i) 0) (by rw [List.getD, List.getElem?_eq_getElem (by omega)]; rfl)
      have c2 := strGet (S := S) (i := k * (wd + 1) + 2 * i + 1) (c := S.getD (k * (wd + 1) + 2 * i + 1) 0) (by rw [List.getD, List.getElem?_eq_getElem (by omega)]; rfl)
      have m1 := dgF_lt (S.getD (k * (wd + 1) + 2 * i) 0)
      have m2 := dgF_lt (S.getD (k * (wd + 1) + 2 * i + 1) 0)
      have q1 := dig60 (S.getD (k * (wd + 1) + 2 * i) 0)
      have q2 := dig60 (S.getD (k * (wd + 1) + 2 * i + 1) 0)
      have hval : pxF S w h wd ((h - 1 - k) * w + i) = ((16 * dgF (S.getD (k * (wd + 1) + 2 * i) 0) + dgF (S.getD (k * (wd + 1) + 2 * i + 1) 0) : Nat) : Int) := by
        obtain ⟨x1, x2⟩ := at_idx (j := h - 1 - k) hil
        unfold pxF atF
        rw [x1, x2, show h - 1 - (h - 1 - k) = k by omega]
      obtain ⟨e1, he1⟩ : ∃ e, dgF (S.getD (k * (wd + 1) + 2 * i) 0) = e := ⟨_, rfl⟩
      obtain ⟨e2, he2⟩ : ∃ e, dgF (S.getD (k * (wd + 1) + 2 * i + 1) 0) = e := ⟨_, rfl⟩
      rw [he1] at m1 q1 hval
      rw [he2] at m2 q2 hval
      have z1 : wr (16 * (e1 : Int)) = ((16 * e1 : Nat) : Int) := by rw [wr_in] <;> omega
      have z2 := wrA (a := 16 * e1) (b := e2) (by omega)
      have z3 : IntKind.u8.wrap ((16 * e1 + e2 : Nat) : Int) = ((16 * e1 + e2 : Nat) : Int) := u8_ink (by simp [inkB]; omega)
      have l3 : (((h - 1 - k) * w + i : Nat) : Int) < ((w * h : Nat) : Int) := by omega
      obtain ⟨v0, g9⟩ := fillO_get (f := pxF S w h wd) (z := fun _ => 0) (ord := rowO w h) (n := k * w + i) hq1
      simp -dsimp -implicitDefEqProofs (maxSteps := 1000000) only [go_sem, ↓reduceIte, Nat.reduceAdd, Nat.reduceSub, Nat.reduceMul, Nat.reduceLT, Nat.reduceLeDiff, Nat.reduceEqDiff, Nat.reduceBEq, Nat.reduceBNe, Int.reduceToNat, Int.reduceLT, Int.reduceLE, Int.reduceNeg, reduceCtorEq, Int.reduceEq, Int.reduceNe, hi', ei, b5, b6, b7]
      refine AtCode.draw 23 [([], []), ([0], []), ([], []), ([2], []), ([], []), ([2, 3, 4], []), ([], []), ([2, 3, 4, 5, 6], []), ([], []), ([2, 3, 4, 5, 6, 7, 8], []), ([], []), ([], []), ([10, 11], []), ([10, 11, 12], []), ([10, 11, 12, 13], []), ([], []), ([], []), ([16], []), ([15, 16, 17], []), ([10, 11, 12, 13, 15, 16, 17, 18], []), ([10, 11, 12, 13, 14, 15, 16, 17, 18, 19], []), ([10, 11, 12, 13, 14, 15, 16, 17, 18, 19, 20], []), ([0, 1, 2, 3, 4, 5, 6, 7, 8, 9, 10, 11, 12, 13, 14, 15, 16, 17, 18, 19, 20, 21], []), ([0, 1, 2, 3, 4, 5, 6, 7, 8, 9, 10, 11, 12, 13, 14, 15, 16, 17, 18, 19, 20, 21, 22], [])] (by kernel_rfl) ?_
      simp -dsimp -implicitDefEqProofs (maxSteps := 1000000) only [go_sem, ↓reduceIte, Nat.reduceAdd, Nat.reduceSub, Nat.reduceMul, Nat.reduceLT, Nat.reduceLeDiff, Nat.reduceEqDiff, Nat.reduceBEq, Nat.reduceBNe, Int.reduceToNat, Int.reduceLT, Int.reduceLE, Int.reduceNeg, reduceCtorEq, Int.reduceEq, Int.reduceNe, s1, s2, b3, b4, c1, Int.natCast_nonneg, Int.toNat_natCast]
      refine QFn.use _ q1 (by simp -dsimp -implicitDefEqProofs (maxSteps := 1000000) only [go_sem, ↓reduceIte, Nat.reduceAdd, Nat.reduceSub, Nat.reduceMul, Nat.reduceLT, Nat.reduceLeDiff, Nat.reduceEqDiff, Nat.reduceBEq, Nat.reduceBNe, Int.reduceToNat, Int.reduceLT, Int.reduceLE, Int.reduceNeg, reduceCtorEq, Int.reduceEq, Int.reduceNe]) ?_
      simp -dsimp -implicitDefEqProofs (maxSteps := 1000000) only [go_sem, ↓reduceIte, Nat.reduceAdd, Nat.reduceSub, Nat.reduceMul, Nat.reduceLT, Nat.reduceLeDiff, Nat.reduceEqDiff, Nat.reduceBEq, Nat.reduceBNe, Int.reduceToNat, Int.reduceLT, Int.reduceLE, Int.reduceNeg, reduceCtorEq, Int.reduceEq, Int.reduceNe, z1, b8, c2, Int.natCast_nonneg, Int.toNat_natCast]
      refine QFn.use _ q2 (by simp -dsimp -implicitDefEqProofs (maxSteps := 1000000) only [go_sem, ↓reduceIte, Nat.reduceAdd, Nat.reduceSub, Nat.reduceMul, Nat.reduceLT, Nat.reduceLeDiff, Nat.reduceEqDiff, Nat.reduceBEq, Nat.reduceBNe, Int.reduceToNat, Int.reduceLT, Int.reduceLE, Int.reduceNeg, reduceCtorEq, Int.reduceEq, Int.reduceNe]) ?_
      simp -dsimp -implicitDefEqProofs (maxSteps := 1000000) only [go_sem, ↓reduceIte, Nat.reduceAdd, Nat.reduceSub, Nat.reduceMul, Nat.reduceLT, Nat.reduceLeDiff, Nat.reduceEqDiff, Nat.reduceBEq, Nat.reduceBNe, Int.reduceToNat, Int.reduceLT, Int.reduceLE, Int.reduceNeg, reduceCtorEq, Int.reduceEq, Int.reduceNe, z2, z3, l3, g9, pxC_len, fillO_len, pxC_get, Int.natCast_nonneg, Int.toNat_natCast, Nat.zero_add]
      refine ⟨⟨i + 1, by omega⟩, by show w - (i + 1) < w - i; omega, Le.tl (Ls := []) (y := none) [] (by simp -dsimp -implicitDefEqProofs (maxSteps := 1000000) only [go_sem, ↓reduceIte, Nat.reduceAdd, Nat.reduceSub, Nat.reduceMul, Nat.reduceLT, Nat.reduceLeDiff, Nat.reduceEqDiff, Nat.reduceBEq, Nat.reduceBNe, Int.reduceToNat, Int.reduceLT, Int.reduceLE, Int.reduceNeg, reduceCtorEq, Int.reduceEq, Int.reduceNe, ei2]) ?_ (by simp) (by simp [sg]) trivial⟩
      simp -dsimp -implicitDefEqProofs (maxSteps := 1000000) only [go_sem, ↓reduceIte, Nat.reduceAdd, Nat.reduceSub, Nat.reduceMul, Nat.reduceLT, Nat.reduceLeDiff, Nat.reduceEqDiff, Nat.reduceBEq, Nat.reduceBNe, Int.reduceToNat, Int.reduceLT, Int.reduceLE, Int.reduceNeg, reduceCtorEq, Int.reduceEq, Int.reduceNe]
      exact ⟨renL_F (by simp -dsimp -implicitDefEqProofs (maxSteps := 1000000) only [go_sem, ↓reduceIte, Nat.reduceAdd, Nat.reduceSub, Nat.reduceMul, Nat.reduceLT, Nat.reduceLeDiff, Nat.reduceEqDiff, Nat.reduceBEq, Nat.reduceBNe, Int.reduceToNat, Int.reduceLT, Int.reduceLE, Int.reduceNeg, reduceCtorEq, Int.reduceEq, Int.reduceNe]), renL_cl2 (fillO_set hq1 (fun q hq => rowO_iff hil hkl hq) hval.symm) (clPx _), renL_F (by simp -dsimp -implicitDefEqProofs (maxSteps := 1000000) only [go_sem, ↓reduceIte, Nat.reduceAdd, Nat.reduceSub, Nat.reduceMul, Nat.reduceLT, Nat.reduceLeDiff, Nat.reduceEqDiff, Nat.reduceBEq, Nat.reduceBNe, Int.reduceToNat, Int.reduceLT, Int.reduceLE, Int.reduceNeg, reduceCtorEq, Int.reduceEq, Int.reduceNe])⟩
theorem parse15 (S : List UInt8) (hS : S.length ≤ 1073741824) : PFun Tryd.prog 15 [Str S] (RE (refP S)) := by
  by_cases hc : refC S = true
  · by_cases ht : (rowsP (wdP S / 2) (rdP S (wdP S / 2) (S.length / (wdP S + 1)) (wdP S))).flatMap rowT = S
    · refine parse15g S hS _ (clRE _) (fun h => by rw [hc] at h; cases h) (fun _ h => absurd ht h) (fun _ _ => ?_)
      unfold refP; rw [if_pos hc, if_pos ht]
    · have : refP S = (raZ, 30) := by unfold refP; rw [if_pos hc, if_neg ht]
      rw [this]
      exact PFun.res (parse15g S hS (.t [raO, I 30]) (by simp [Cl_t, Cl_g, Cl_v]) (fun _ => rfl) (fun _ _ => rfl) (fun _ h => absurd h ht)) (subO 30)
  · have : refP S = (raZ, 30) := by unfold refP; rw [if_neg hc]
    rw [this]
    exact PFun.res (parse15g S hS (.t [raO, I 30]) (by simp [Cl_t, Cl_g, Cl_v]) (fun _ => rfl) (fun _ _ => rfl) (fun h => absurd h hc)) (subO 30)
end

section
set_option maxRecDepth 20000
theorem flat_get {α : Type} {f : α → List UInt8} {n : Nat} : ∀ {L : List α}, (∀ x ∈ L, (f x).length = n) → ∀ {k c : Nat} {x : α}, L[k]? = some x → c < n → (L.flatMap f)[k * n + c]? = (f x)[c]?
  | [], _, k, c, x, h, _ => by simp at h
  | a :: L, hl, k, c, x, h, hc => by
    rw [List.flatMap_cons]
    have ha := hl a List.mem_cons_self
    cases k with
    | zero =>
      have : a = x := Option.some.inj h
      subst this
      rw [List.getElem?_append_left (by omega), Nat.zero_mul, Nat.zero_add]
    | succ k =>
      rw [List.getElem?_append_right (by rw [ha, Nat.succ_mul]; omega), ha, show (k + 1) * n + c - n = k * n + c by rw [Nat.succ_mul]; omega]
      exact flat_get (fun x hx => hl x (List.mem_cons_of_mem _ hx)) (by simpa using h) hc
theorem wd_app : ∀ (u v : List UInt8), (10 : UInt8) ∉ u → wdP (u ++ 10 :: v) = u.length
  | [], v, _ => by show wdP (10 :: v) = 0; rw [wd_cons, if_pos rfl]
  | c :: u, v, h => by
    rw [List.cons_append, wd_cons, if_neg (fun e => h (by rw [e]; exact List.mem_cons_self)), wd_app u v (fun hm => h (List.mem_cons_of_mem _ hm)), List.length_cons]
theorem flat_no10 {l : List Int} (h : okP l) : (10 : UInt8) ∉ l.flatMap pxT := fun hm => by
  obtain ⟨x, hx, h10⟩ := List.mem_flatMap.1 hm
  exact px_no10 (h x hx).1 (h x hx).2 h10
theorem dg_px_all : ((List.range 256).all fun n => decide (16 * dgF ((pxT (n : Int)).getD 0 0) + dgF ((pxT (n : Int)).getD 1 0) = n)) = true := by kernel_rfl
theorem dg_px {x : Int} (h : 0 ≤ x ∧ x ≤ 255) : ((16 * dgF ((pxT x).getD 0 0) + dgF ((pxT x).getD 1 0) : Nat) : Int) = x := by
  have := List.all_eq_true.1 dg_px_all x.toNat (List.mem_range.2 (by omega))
  rw [show ((x.toNat : Nat) : Int) = x by omega] at this
  have := of_decide_eq_true this
  omega
structure TxS (w h : Nat) (p : List Int) (S : List UInt8) : Prop where
  w1 : 1 ≤ w
  w2 : w ≤ 256
  h1 : 1 ≤ h
  h2 : h ≤ 256
  len : p.length = w * h
  ok : okP p
  txt : (rowsP w p).flatMap rowT = S
theorem TxS.rows {w h : Nat} {p : List Int} {S : List UInt8} (H : TxS w h p S) : ∀ k, k < h → (rowsP w p)[k]? = some ((p.drop ((h - 1 - k) * w)).take w) := fun k hk => rowsP_get H.w1 H.len hk
theorem TxS.rlen {w h : Nat} {p : List Int} {S : List UInt8} (H : TxS w h p S) : (rowsP w p).length = h := rowsP_len H.w1 H.len
theorem TxS.each {w h : Nat} {p : List Int} {S : List UInt8} (H : TxS w h p S) : ∀ r ∈ rowsP w p, r.length = w ∧ okP r := fun r hr => by
  obtain ⟨k, hk⟩ := List.getElem?_of_mem hr
  have hkl : k < (rowsP w p).length := (List.getElem?_eq_some_iff.1 hk).1
  rw [H.rlen] at hkl
  rw [H.rows k hkl] at hk
  rw [← Option.some.inj hk]
  exact ⟨row_len H.len hkl, fun x hx => H.ok x (List.mem_of_mem_drop (List.mem_of_mem_take hx))⟩
theorem TxS.slen {w h : Nat} {p : List Int} {S : List UInt8} (H : TxS w h p S) : S.length = h * (2 * w + 1) := by
  rw [← H.txt, flat_len (n := 2 * w + 1) (fun r hr => by rw [rowT_len, (H.each r hr).1]), H.rlen]
theorem TxS.text {w h : Nat} {p : List Int} {S : List UInt8} (H : TxS w h p S) : textP ⟨w, h, p⟩ = (S, 0) := by
  unfold textP
  rw [if_pos (vaB_mk H.w1 H.w2 H.h1 H.h2 H.len)]
  show ((rowsP w p).flatMap rowT, (0 : Int)) = _
  rw [H.txt]
theorem TxS.parse {w h : Nat} {p : List Int} {S : List UInt8} (H : TxS w h p S) : parseP S = (⟨w, h, p⟩, 0) := by
  have hsl := H.slen
  have hb : h * (2 * w + 1) ≤ 256 * 513 := Nat.mul_le_mul H.h2 (by have := H.w2; omega)
  have hlines : linesP S = (chunkL w p).map rowT := by
    unfold linesP
    have e1 : S = ((rowsP w p).map fun r => r.flatMap pxT).flatMap fun r => r ++ [10] := by
      rw [← H.txt, List.flatMap_map]; rfl
    rw [e1, splitA_rows _ (fun r hr => by
      obtain ⟨q, hq, rfl⟩ := List.mem_map.1 hr
      exact flat_no10 (H.each q hq).2), List.dropLast_concat, List.map_map]
    show ((rowsP w p).map rowT).reverse = _
    rw [← List.map_reverse]
    unfold rowsP
    rw [List.reverse_reverse]
  have hmem : ∀ q ∈ chunkL w p, q.length = w ∧ okP q := fun q hq => H.each q (by unfold rowsP; exact List.mem_reverse.2 hq)
  have hcl : (chunkL w p).length = h := by have := H.rlen; unfold rowsP at this; rwa [List.length_reverse] at this
  unfold parseP
  rw [if_neg (by omega), hlines]
  cases hC : chunkL w p with
  | nil => rw [hC] at hcl; simp at hcl; have := H.h1; omega
  | cons r R =>
    rw [hC] at hmem hcl
    have hrl := (hmem r List.mem_cons_self).1
    rw [goLines_text (fun q hq x hx => (hmem q hq).2 x hx) (by intro e; rw [e] at hrl; simp at hrl; have := H.w1; omega)]
    have hfl := chunkL_flat H.w1 h p H.len
    rw [hC] at hfl
    simp only
    rw [hfl, List.length_map, hcl, hrl, H.text]
    rw [if_pos ⟨rfl, rfl⟩]
theorem TxS.ref {w h : Nat} {p : List Int} {S : List UInt8} (H : TxS w h p S) : refP S = (⟨w, h, p⟩, 0) := by
  have hsl := H.slen
  have hwd : wdP S = 2 * w := by
    have h0 := H.rows 0 H.h1
    cases hR : rowsP w p with
    | nil => rw [hR] at h0; simp at h0
    | cons r R =>
      have hr := H.each r (by rw [hR]; exact List.mem_cons_self)
      rw [← H.txt, hR, List.flatMap_cons]
      show wdP ((r.flatMap pxT ++ [10]) ++ R.flatMap rowT) = _
      rw [List.append_assoc, List.singleton_append, wd_app _ _ (flat_no10 hr.2), flat_len (fun x _ => pxT_len x), hr.1, Nat.mul_comm]
  have e1 : 2 * w / 2 = w := by omega
  have e2 : S.length / (2 * w + 1) = h := by rw [hsl]; exact Nat.mul_div_cancel _ (by omega)
  have hrd : rdP S w h (2 * w) = p := by
    unfold rdP
    refine Eq.trans (List.map_congr_left fun k hk => ?_) (rangeGet H.len)
    have hk := List.mem_range.1 hk
    have m := mod_lt2 hk
    obtain ⟨i, hi⟩ : ∃ i, k % w = i := ⟨_, rfl⟩
    obtain ⟨j, hj⟩ : ∃ j, k / w = j := ⟨_, rfl⟩
    have hkij : k = j * w + i := by rw [← hi, ← hj]; exact (Nat.div_add_mod' k w).symm
    rw [hi, hj] at m
    have hg := H.rows (h - 1 - j) (by omega)
    rw [show h - 1 - (h - 1 - j) = j by omega] at hg
    have hgi : ((p.drop (j * w)).take w)[i]? = some (p.getD k 0) := by
      rw [List.getElem?_take, if_pos m.1, List.getElem?_drop, ← hkij]
      exact getD_some (by rw [H.len]; exact hk)
    have hx := H.ok (p.getD k 0) (List.mem_of_getElem? (getD_some (by rw [H.len]; exact hk)))
    have key : ∀ d, d < 2 → S.getD ((h - 1 - j) * (2 * w + 1) + 2 * i + d) 0 = (pxT (p.getD k 0)).getD d 0 := fun d hd => by
      rw [List.getD, List.getD, ← H.txt, Nat.add_assoc, flat_get (n := 2 * w + 1) (fun r hr => by rw [rowT_len, (H.each r hr).1]) hg (by omega)]
      show (((p.drop (j * w)).take w).flatMap pxT ++ [10])[2 * i + d]?.getD 0 = _
      rw [List.getElem?_append_left (by
        have := row_len (j := h - 1 - j) H.len (by omega)
        rw [show h - 1 - (h - 1 - j) = j by omega] at this
        rw [flat_len (fun x _ => pxT_len x), this]; omega), Nat.mul_comm 2 i, flat_get (fun x _ => pxT_len x) hgi hd]
    unfold pxF atF
    rw [hi, hj, key 1 (by omega), show S.getD ((h - 1 - j) * (2 * w + 1) + 2 * i) 0 = (pxT (p.getD k 0)).getD 0 0 from key 0 (by omega)]
    exact dg_px hx
  have hc : refC S = true := by
    unfold refC
    rw [hwd, e1, e2, hsl]
    have := H.w1
    have := H.w2
    have := H.h1
    have := H.h2
    simp only [Bool.and_eq_true, decide_eq_true_eq]
    exact ⟨⟨⟨⟨by omega, by omega⟩, by omega⟩, by omega⟩, trivial⟩
  unfold refP
  rw [if_pos hc, hwd, e1, e2, hrd, if_pos H.txt]
theorem parse_shape (S : List UInt8) : parseP S = (raZ, 30) ∨ ∃ w h p, TxS w h p S := by
  unfold parseP
  split
  · exact Or.inl rfl
  · cases hg : goLines (linesP S) 0 [] with
    | none => exact Or.inl rfl
    | some q =>
      obtain ⟨w, p⟩ := q
      simp only
      split
      · rename_i hc
        right
        have hv : vaB ⟨w, ((linesP S).length : Nat), p⟩ = true := by
          cases hv : vaB ⟨w, ((linesP S).length : Nat), p⟩ with
          | true => rfl
          | false =>
            have := hc.1
            unfold textP at this
            rw [hv] at this
            simp at this
        obtain ⟨w', h', p', e, w1, w2, h1, h2, hl⟩ := vaR_of hv
        injection e with e1 e2 e3
        subst e1
        have e2 : (linesP S).length = h' := by omega
        subst e3
        have ht := hc.2
        unfold textP at ht
        rw [if_pos hv] at ht
        exact ⟨w', h', p, ⟨w1, w2, h1, h2, hl, goLines_ok _ _ _ _ _ hg (fun x hx => by simp at hx), ht⟩⟩
      · exact Or.inl rfl
theorem ref_shape (S : List UInt8) : refP S = (raZ, 30) ∨ ∃ w h p, TxS w h p S := by
  unfold refP
  split
  · rename_i hc
    split
    · rename_i ht
      right
      simp only [refC, Bool.and_eq_true, decide_eq_true_eq] at hc
      exact ⟨_, _, _, ⟨hc.1.1.1.1, hc.1.1.1.2, hc.1.1.2, hc.1.2, by simp [rdP], ok_rd _ _ _ _, ht⟩⟩
    · exact Or.inl rfl
  · exact Or.inl rfl
theorem ref_eq (S : List UInt8) : refP S = parseP S := by
  rcases parse_shape S with h1 | ⟨w, h, p, H⟩
  · rcases ref_shape S with h2 | ⟨w, h, p, H⟩
    · rw [h1, h2]
    · rw [H.ref, H.parse]
  · rw [H.ref, H.parse]
end

section
set_option maxRecDepth 20000
attribute [local go_sem] clPxT
theorem reads3 (S : List UInt8) : PFun Tryd.prog 3 [Str S] (Bo true) := by
  refine PFun.intro 400 mixed Tryd.func3 (by kernel_rfl) rfl (by first | exact .v _ | (simp [Cl_v, Cl_t, Cl_g, Cl_fn, Cl_rp, Cl_ro]; done) | (simp [Cl_v, Cl_t, Cl_g, Cl_fn, Cl_rp, Cl_ro, or_imp, forall_and]; done) | (split <;> simp [Cl_v, Cl_t, Cl_g, Cl_fn, Cl_rp, Cl_ro])) (Nat.le_of_ble_eq_true rfl) ?_; rw [Tryd.ntmps3, Tryd.results3]
  simp -dsimp -implicitDefEqProofs (maxSteps := 1000000) only [go_sem, ↓reduceIte, Nat.reduceAdd, Nat.reduceSub, Nat.reduceMul, Nat.reduceLT, Nat.reduceLeDiff, Nat.reduceEqDiff, Nat.reduceBEq, Nat.reduceBNe, Int.reduceToNat, Int.reduceLT, Int.reduceLE, Int.reduceNeg, reduceCtorEq, Int.reduceEq, Int.reduceNe, size_str]
  refine ⟨fun hl => ?_, fun hl => ?_⟩
  · refine AtFn.pure0 awake13 ?_
    simp -dsimp -implicitDefEqProofs (maxSteps := 1000000) only [go_sem, ↓reduceIte, Nat.reduceAdd, Nat.reduceSub, Nat.reduceMul, Nat.reduceLT, Nat.reduceLeDiff, Nat.reduceEqDiff, Nat.reduceBEq, Nat.reduceBNe, Int.reduceToNat, Int.reduceLT, Int.reduceLE, Int.reduceNeg, reduceCtorEq, Int.reduceEq, Int.reduceNe]
  have h1 := parse14 S (by omega)
  have h2 := parse15 S (by omega)
  rw [ref_eq] at h2
  rcases parse_shape S with hp | ⟨w, h, p, H⟩
  · rw [hp] at h1 h2
    refine AtFn.pure0 h1 ?_
    simp -dsimp -implicitDefEqProofs (maxSteps := 1000000) only [go_sem, ↓reduceIte, Nat.reduceAdd, Nat.reduceSub, Nat.reduceMul, Nat.reduceLT, Nat.reduceLeDiff, Nat.reduceEqDiff, Nat.reduceBEq, Nat.reduceBNe, Int.reduceToNat, Int.reduceLT, Int.reduceLE, Int.reduceNeg, reduceCtorEq, Int.reduceEq, Int.reduceNe]
    refine AtFn.pure0 h2 ?_
    simp -dsimp -implicitDefEqProofs (maxSteps := 1000000) only [go_sem, ↓reduceIte, Nat.reduceAdd, Nat.reduceSub, Nat.reduceMul, Nat.reduceLT, Nat.reduceLeDiff, Nat.reduceEqDiff, Nat.reduceBEq, Nat.reduceBNe, Int.reduceToNat, Int.reduceLT, Int.reduceLE, Int.reduceNeg, reduceCtorEq, Int.reduceEq, Int.reduceNe]
    refine AtFn.pure (sameT okZ) ?_
    simp -dsimp -implicitDefEqProofs (maxSteps := 1000000) only [go_sem, ↓reduceIte, Nat.reduceAdd, Nat.reduceSub, Nat.reduceMul, Nat.reduceLT, Nat.reduceLeDiff, Nat.reduceEqDiff, Nat.reduceBEq, Nat.reduceBNe, Int.reduceToNat, Int.reduceLT, Int.reduceLE, Int.reduceNeg, reduceCtorEq, Int.reduceEq, Int.reduceNe]
    refine ⟨rfl, AtFn.pure0 awake13 ?_⟩
    simp -dsimp -implicitDefEqProofs (maxSteps := 1000000) only [go_sem, ↓reduceIte, Nat.reduceAdd, Nat.reduceSub, Nat.reduceMul, Nat.reduceLT, Nat.reduceLeDiff, Nat.reduceEqDiff, Nat.reduceBEq, Nat.reduceBNe, Int.reduceToNat, Int.reduceLT, Int.reduceLE, Int.reduceNeg, reduceCtorEq, Int.reduceEq, Int.reduceNe]
  · rw [H.parse] at h1 h2
    have ht := text17 ⟨w, h, p⟩ H.ok
    rw [H.text] at ht
    refine AtFn.pure0 h1 ?_
    simp -dsimp -implicitDefEqProofs (maxSteps := 1000000) only [go_sem, ↓reduceIte, Nat.reduceAdd, Nat.reduceSub, Nat.reduceMul, Nat.reduceLT, Nat.reduceLeDiff, Nat.reduceEqDiff, Nat.reduceBEq, Nat.reduceBNe, Int.reduceToNat, Int.reduceLT, Int.reduceLE, Int.reduceNeg, reduceCtorEq, Int.reduceEq, Int.reduceNe]
    refine AtFn.pure0 h2 ?_
    simp -dsimp -implicitDefEqProofs (maxSteps := 1000000) only [go_sem, ↓reduceIte, Nat.reduceAdd, Nat.reduceSub, Nat.reduceMul, Nat.reduceLT, Nat.reduceLeDiff, Nat.reduceEqDiff, Nat.reduceBEq, Nat.reduceBNe, Int.reduceToNat, Int.reduceLT, Int.reduceLE, Int.reduceNeg, reduceCtorEq, Int.reduceEq, Int.reduceNe]
    refine AtFn.pure (sameT (a := ⟨w, h, p⟩) H.ok) ?_
    simp -dsimp -implicitDefEqProofs (maxSteps := 1000000) only [go_sem, ↓reduceIte, Nat.reduceAdd, Nat.reduceSub, Nat.reduceMul, Nat.reduceLT, Nat.reduceLeDiff, Nat.reduceEqDiff, Nat.reduceBEq, Nat.reduceBNe, Int.reduceToNat, Int.reduceLT, Int.reduceLE, Int.reduceNeg, reduceCtorEq, Int.reduceEq, Int.reduceNe]
    refine AtFn.pure0 ht ?_
    have hs := (str_eq S S).2 rfl
    simp -dsimp -implicitDefEqProofs (maxSteps := 1000000) only [go_sem, ↓reduceIte, Nat.reduceAdd, Nat.reduceSub, Nat.reduceMul, Nat.reduceLT, Nat.reduceLeDiff, Nat.reduceEqDiff, Nat.reduceBEq, Nat.reduceBNe, Int.reduceToNat, Int.reduceLT, Int.reduceLE, Int.reduceNeg, reduceCtorEq, Int.reduceEq, Int.reduceNe, hs]
    refine AtFn.pure0 awake13 ?_
    simp -dsimp -implicitDefEqProofs (maxSteps := 1000000) only [go_sem, ↓reduceIte, Nat.reduceAdd, Nat.reduceSub, Nat.reduceMul, Nat.reduceLT, Nat.reduceLeDiff, Nat.reduceEqDiff, Nat.reduceBEq, Nat.reduceBNe, Int.reduceToNat, Int.reduceLT, Int.reduceLE, Int.reduceNeg, reduceCtorEq, Int.reduceEq, Int.reduceNe]
theorem reads3' (s : ByteArray) : PFun Tryd.prog 3 [.v (.string s)] (Bo true) := by
  have h := reads3 s.data.toList
  have e : (⟨s.data.toList.toArray⟩ : ByteArray) = s := by cases s; simp
  show PFun Tryd.prog 3 [.v (.string s)] (Bo true)
  rw [← e]; exact h
end

end Go.Proofs.YtfmlhmfbhcfnpaaDoor
