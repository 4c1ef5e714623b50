/- What functions of the given program answer, part 4. Conditions: each theorem speaks for itself. -/
import Derived.Test.YtdamfkckjcplcaaBTy
import Derived.Test.YtdamfkckjcplcaaBF1
import Derived.Test.YtdamfkckjcplcaaBF2
import Derived.Test.YtdamfkckjcplcaaBF3
set_option linter.unusedSimpArgs false
set_option linter.unusedVariables false
namespace Go.Proofs.Ytdamfkckjcplcaa
open Go Go.Eng Go.RowKit
attribute [local go_sem ↓] qE_move qE_assign qE_pick qE_load qE_fieldAddr qE_indexAddr qE_extract qE_binOp qE_not qE_convert qE_makeFunc qE_build qE_len qE_nilCheck qE_slice vc_end vc_skip vc_ret vc_seq vc_cond vc_block vc_exit vc_region vc_draw vc_loop vc_blk vc_lp vc_o_nil vc_o vc_o_guard onK_eq oK_move oK_assign oK_pick oK_load oK_fieldAddr oK_indexAddr oK_index oK_extract oK_binOp oK_unOp oK_convert oK_makeFunc oK_nilCheck oK_slice oK_build oK_len onN_eq oK_box oK_alloc oK_buildSlice onH_eq oK_store onA_eq oK_append oK_call oK_makeMap oK_lookup oK_mapUpdate bV_add bV_sub bV_mul bV_shr bV_eql bV_neq bV_lss bV_leq bV_gtr bV_geq vcQ_nil vcQ_cons vcQ_guard Q_move Q_assign Q_pick Q_load Q_fieldAddr Q_indexAddr Q_extract Q_binOp Q_unOp Q_nilCheck Q_slice Q_build Q_len Q_box Q_alloc Q_buildSlice onQA_eq Q_call qE_index tailB_nil tailB_true onS_eq tailB_store onP_eq tailB_append onQ_eq onQB_eq loadE indexE
attribute [local go_sem] force_eq optK_some optE_some optE_none bK_v tK_t fnK_fn fyK_fn nK_ptr nK_rp pK_ptr pK_rp brK_true brK_false brK_not evA_tmp evA_const evA_func putA_some putA_none pushA_eq slots_zero slots_nil tl_nil tl_cons find_cons find_nil setN_cons setN_nil dropN_nil dropN_cons loE_none loE_some hiE_none hiE_some slE_sl slE_ro bE_i bE_eql bE_neq intsA_nil intsA_cons gdK_b gdK_u popTo_blk popTo_c popTo_lp nilE_tmp nilE_int nilE_nil srcE_ro srcE_sl dstE_sl fin_eq res_nil res_tmp res_cell tup1 tup0 optA_some frz_v frz_ro frz_g frz_fn frz_ptr frz_sl optL_some nm_v nm_ro nm_g nm_fn nm_ptr nm_sl cells_v cells_g cells_ro cells_sl cells_fn one_int one_bool one_slice oneA_v oneA_ro oneA_sl ofV_int ofV_bool ofV_slice ofV_pointer len_ro len_sl asI_int fill_nil fill_cons chunks_nil chunks_cons take_all DrawK_eq idR_eq addB_some roB_cons sg_nil sg_cons ren_unk ren_v ren_nil ren_ptr ren_sl ren_ro ren_rp iK_ro iK_sl ixE_g takeA_00 takeA_s nil_eq maskE_eq i_InlQ i_tup2 i_oneMap i_RenF_nil i_RenF_cons i_cut_nil i_cut_cons wrap_wr brK_dec maskH_eq upd_get slots_succ Cl_v Cl_ro Cl_rp Cl_fn Cl_g Cl_t Bool.false_eq_true decide_true decide_false beq_self_eq_true true_and and_true ne_eq not_true not_false_eq_true List.elem_cons List.elem_nil List.contains_cons List.contains_nil List.getD_cons_zero List.getD_cons_succ Int.cast_ofNat_Int Bool.or_true Bool.true_or Bool.or_false Bool.false_or if_true if_false List.toList_toArray List.map_cons List.map_nil List.cons_append List.nil_append List.append_nil List.flatMap_cons List.flatMap_nil List.getElem?_cons_zero List.getElem?_cons_succ List.length_cons List.length_nil List.drop_succ_cons List.drop_zero List.take_succ_cons List.take_zero List.all_cons List.all_nil List.set_cons_zero List.set_cons_succ Option.bind_some Option.bind_none Option.map_some Option.map_none List.headD_cons List.tail_cons List.getElem?_toArray beq_true beq_false Bool.not_true Bool.not_false Bool.true_and Bool.and_true Bool.false_and Bool.and_false newCh List.replicate_succ List.replicate_zero Option.some.injEq exists_eq_left' sg_nil sg_cons List.mem_cons List.not_mem_nil forall_eq_or_imp forall_eq false_implies implies_true or_false false_or false_and and_false or_true true_or exists_false Option.isSome_some Option.isSome_none List.range_zero
attribute [local go_sem] T.sz3 T.by3 T.ag3 T.ik3 T.us3 T.ze3 T.sz4 T.ag4 T.sz22 T.ag22 T.sl22 T.sz28 T.ag28 T.ze28 T.bu28 T.sz32 T.ag32 T.sl32 T.ar32 T.pt32 T.ik32 T.us32 T.sz33 T.ag33 T.sl33 T.ar33 T.pt33 T.ik33 T.us33 T.sz40 T.ag40 T.sl40 T.ik40 T.us40 T.sz42 T.ag42 T.ze42 T.fl42_0 T.bu42 T.sz46 T.ag46 T.sl46 T.sz48 T.ag48 T.ze48 T.fl48_0 T.fl48_1 T.fl48_2 T.bu48 T.sz50 T.by50 T.ag50 T.ze50 T.fl50_0 T.fl50_1 T.fl50_2 T.fl50_3 T.bu50 T.sz54 T.ag54 T.sz56 T.ag56 T.ze56 T.fl56_0 T.fl56_1 T.fl56_2 T.fl56_3 T.bu56 T.sz58 T.by58 T.ag58 T.ze58 T.fl58_0 T.fl58_1 T.bu58 T.sz63 T.ag63 T.ze63 T.fl63_0 T.fl63_1 T.fl63_2 T.fl63_3 T.bu63 T.sz70 T.ag70 T.ze70 T.bu70 T.ze77 T.fl77_0 T.fl77_1 T.fl77_2 T.fl77_3 T.fl77_4 T.bu77 T.sz83 T.ag83 T.sl83 T.ar83 T.sz95 T.ag95 T.ze97 T.fl97_0 T.fl97_1 T.bu97 T.ag101 T.ik109 T.us109 T.ag112
section
set_option maxRecDepth 20000
attribute [local go_sem] clIntsL clRusL clSets clRows clTbl clSetsT'
abbrev RowA (r : Ro4) : AV := .g (rowC r)
def toRu (r : Ro4) : Ru := ⟨r.f, r.n, 0, 0⟩
def cmpR (a b : Ro4) : Int := cmpP (toRu a) (toRu b)
theorem compare50 (a b : Ro4) : PFun Try.prog 50 [RowA a, RowA b] (I (cmpR a b)) := by
  refine PFun.intro 400 mixed Try.func50 (by kernel_rfl) rfl (by first | exact .v _ | (simp [Cl_v, Cl_t, Cl_g, Cl_fn, Cl_rp, Cl_ro]; done) | (simp [Cl_v, Cl_t, Cl_g, Cl_fn, Cl_rp, Cl_ro, or_imp, forall_and]; done) | (split <;> simp [Cl_v, Cl_t, Cl_g, Cl_fn, Cl_rp, Cl_ro])) (Nat.le_of_ble_eq_true rfl) ?_; rw [Try.ntmps50, Try.results50]
  simp -dsimp -implicitDefEqProofs (maxSteps := 1000000) only [go_sem, ↓reduceIte, Nat.reduceAdd, Nat.reduceSub, Nat.reduceMul, Nat.reduceLT, Nat.reduceLeDiff, Nat.reduceEqDiff, Nat.reduceBEq, Nat.reduceBNe, Int.reduceToNat, Int.reduceLT, Int.reduceLE, Int.reduceNeg, reduceCtorEq, Int.reduceEq, Int.reduceNe]
  refine AtCode.draw 10 [([], []), ([0], []), ([], []), ([2], []), ([0, 1, 2, 3], []), ([], []), ([5], []), ([], []), ([7], []), ([0, 1, 2, 3, 4, 5, 6, 7, 8], []), ([0, 1, 2, 3, 4, 5, 6, 7, 8, 9], []), ([0, 1, 2, 3, 4, 5, 6, 7, 8, 9, 10], []), ([0, 1, 2, 3, 4, 5, 6, 7, 8, 9, 10, 11], [])] (by kernel_rfl) ?_
  simp -dsimp -implicitDefEqProofs (maxSteps := 1000000) only [go_sem, ↓reduceIte, Nat.reduceAdd, Nat.reduceSub, Nat.reduceMul, Nat.reduceLT, Nat.reduceLeDiff, Nat.reduceEqDiff, Nat.reduceBEq, Nat.reduceBNe, Int.reduceToNat, Int.reduceLT, Int.reduceLE, Int.reduceNeg, reduceCtorEq, Int.reduceEq, Int.reduceNe]
  refine QFn.use _ (compare _ _) (by simp -dsimp -implicitDefEqProofs (maxSteps := 1000000) only [go_sem, ↓reduceIte, Nat.reduceAdd, Nat.reduceSub, Nat.reduceMul, Nat.reduceLT, Nat.reduceLeDiff, Nat.reduceEqDiff, Nat.reduceBEq, Nat.reduceBNe, Int.reduceToNat, Int.reduceLT, Int.reduceLE, Int.reduceNeg, reduceCtorEq, Int.reduceEq, Int.reduceNe]) ?_
  simp -dsimp -implicitDefEqProofs (maxSteps := 1000000) only [go_sem, ↓reduceIte, Nat.reduceAdd, Nat.reduceSub, Nat.reduceMul, Nat.reduceLT, Nat.reduceLeDiff, Nat.reduceEqDiff, Nat.reduceBEq, Nat.reduceBNe, Int.reduceToNat, Int.reduceLT, Int.reduceLE, Int.reduceNeg, reduceCtorEq, Int.reduceEq, Int.reduceNe]
  refine QFn.use _ (compare _ _) (by simp -dsimp -implicitDefEqProofs (maxSteps := 1000000) only [go_sem, ↓reduceIte, Nat.reduceAdd, Nat.reduceSub, Nat.reduceMul, Nat.reduceLT, Nat.reduceLeDiff, Nat.reduceEqDiff, Nat.reduceBEq, Nat.reduceBNe, Int.reduceToNat, Int.reduceLT, Int.reduceLE, Int.reduceNeg, reduceCtorEq, Int.reduceEq, Int.reduceNe]) ?_
  simp -dsimp -implicitDefEqProofs (maxSteps := 1000000) only [go_sem, ↓reduceIte, Nat.reduceAdd, Nat.reduceSub, Nat.reduceMul, Nat.reduceLT, Nat.reduceLeDiff, Nat.reduceEqDiff, Nat.reduceBEq, Nat.reduceBNe, Int.reduceToNat, Int.reduceLT, Int.reduceLE, Int.reduceNeg, reduceCtorEq, Int.reduceEq, Int.reduceNe]
  refine AtFn.pure (or2 (cmpZ a.f b.f) (cmpZ a.n b.n)) ?_
  simp -dsimp -implicitDefEqProofs (maxSteps := 1000000) only [go_sem, ↓reduceIte, Nat.reduceAdd, Nat.reduceSub, Nat.reduceMul, Nat.reduceLT, Nat.reduceLeDiff, Nat.reduceEqDiff, Nat.reduceBEq, Nat.reduceBNe, Int.reduceToNat, Int.reduceLT, Int.reduceLE, Int.reduceNeg, reduceCtorEq, Int.reduceEq, Int.reduceNe]
  exact ⟨rfl, rfl⟩
def zT : Ro4 := ⟨0, 0, [], 0⟩
theorem getT {l : List Ro4} {i : Nat} (h : i < l.length) : l[i]? = some (l.getD i zT) := by simp [List.getD, h]
theorem getTR {l : List Ro4} {i : Nat} (h : i < l.length) : (l.map toRu).getD i zR = toRu (l.getD i zT) := by simp [List.getD, h]
theorem search49 (l : List Ro4) (a b : Int) (hl : l.length < 2 ^ 40) (hr : rise (l.map toRu) = true) : PFun Try.prog 49 [Tbl l, RowA ⟨a, b, [], 0⟩, .fn 50 []] (.t [I ((l.map toRu).findIdx fun r => decide (0 ≤ cmpP r (tg a b))), Bo (ruleOf (l.map toRu) a b).isSome]) := by
  have hml : (l.map toRu).length = l.length := List.length_map ..
  refine PFun.intro 400 mixed Try.func49 (by kernel_rfl) rfl (by first | exact .v _ | (simp [Cl_v, Cl_t, Cl_g, Cl_fn, Cl_rp, Cl_ro]; done) | (simp [Cl_v, Cl_t, Cl_g, Cl_fn, Cl_rp, Cl_ro, or_imp, forall_and]; done) | (split <;> simp [Cl_v, Cl_t, Cl_g, Cl_fn, Cl_rp, Cl_ro])) (Nat.le_of_ble_eq_true rfl) ?_; rw [Try.ntmps49, Try.results49]
  simp -dsimp -implicitDefEqProofs (maxSteps := 1000000) only [go_sem, ↓reduceIte, Nat.reduceAdd, Nat.reduceSub, Nat.reduceMul, Nat.reduceLT, Nat.reduceLeDiff, Nat.reduceEqDiff, Nat.reduceBEq, Nat.reduceBNe, Int.reduceToNat, Int.reduceLT, Int.reduceLE, Int.reduceNeg, reduceCtorEq, Int.reduceEq, Int.reduceNe, List.length_map]
  refine ⟨{p : Nat × Nat // p.1 ≤ p.2 ∧ p.2 ≤ l.length ∧ (∀ j, j < p.1 → cmpP ((l.map toRu).getD j zR) (tg a b) < 0) ∧ (∀ j, p.2 ≤ j → j < l.length → 0 ≤ cmpP ((l.map toRu).getD j zR) (tg a b))},
    fun p => ⟨49, tl [(0, Tbl l), (2, .fn 50 []), (4, .ptr 0 0 0), (8, I l.length), (9, I p.1.1), (10, I p.1.2)], [(0, ⟨4, [[I a, I b, Sets [], I 0]]⟩)], 1, .nil⟩, fun p => p.1.2 - p.1.1,
    ⟨⟨(0, l.length), by omega, by omega, by intro j h; omega, by intro j h h'; omega⟩, Le.tl (Ls := []) (y := none) [] ?_ ?_ (by simp) (by simp [sg]) trivial⟩, fun i => ?_⟩
  · simp -dsimp -implicitDefEqProofs (maxSteps := 1000000) only [go_sem, ↓reduceIte, Nat.reduceAdd, Nat.reduceSub, Nat.reduceMul, Nat.reduceLT, Nat.reduceLeDiff, Nat.reduceEqDiff, Nat.reduceBEq, Nat.reduceBNe, Int.reduceToNat, Int.reduceLT, Int.reduceLE, Int.reduceNeg, reduceCtorEq, Int.reduceEq, Int.reduceNe]
    exact .cl (by simp [Cl_fn])
  · simp -dsimp -implicitDefEqProofs (maxSteps := 1000000) only [go_sem, ↓reduceIte, Nat.reduceAdd, Nat.reduceSub, Nat.reduceMul, Nat.reduceLT, Nat.reduceLeDiff, Nat.reduceEqDiff, Nat.reduceBEq, Nat.reduceBNe, Int.reduceToNat, Int.reduceLT, Int.reduceLE, Int.reduceNeg, reduceCtorEq, Int.reduceEq, Int.reduceNe]
    exact renL_cl rfl (by simp -dsimp -implicitDefEqProofs (maxSteps := 1000000) only [go_sem, ↓reduceIte, Nat.reduceAdd, Nat.reduceSub, Nat.reduceMul, Nat.reduceLT, Nat.reduceLeDiff, Nat.reduceEqDiff, Nat.reduceBEq, Nat.reduceBNe, Int.reduceToNat, Int.reduceLT, Int.reduceLE, Int.reduceNeg, reduceCtorEq, Int.reduceEq, Int.reduceNe])
  · obtain ⟨⟨lo, hi⟩, h1, h2, h3, h4⟩ := i
    simp only at h1 h2 h3 h4
    simp -dsimp -implicitDefEqProofs (maxSteps := 1000000) only [go_sem, ↓reduceIte, Nat.reduceAdd, Nat.reduceSub, Nat.reduceMul, Nat.reduceLT, Nat.reduceLeDiff, Nat.reduceEqDiff, Nat.reduceBEq, Nat.reduceBNe, Int.reduceToNat, Int.reduceLT, Int.reduceLE, Int.reduceNeg, reduceCtorEq, Int.reduceEq, Int.reduceNe, List.length_map]
    refine ⟨fun h => ?_, fun h => ?_⟩
    · have hm := mid_eq lo hi h1 (by omega)
      obtain ⟨m, hmd⟩ : ∃ m, m = (lo + hi) / 2 := ⟨_, rfl⟩
      rw [← hmd] at hm
      have hml2 : m < l.length := by omega
      have e1 : wr ((m : Int) + 1) = ((m + 1 : Nat) : Int) := by rw [wr_in] <;> omega
      have hg := getTR hml2
      refine AtCode.draw 8 [([], []), ([], []), ([], []), ([1, 2], []), ([1, 2, 3], []), ([], []), ([0, 1, 2, 3, 4, 5], []), ([0, 1, 2, 3, 4, 5, 6], [])] (by kernel_rfl) ?_
      simp -dsimp -implicitDefEqProofs (maxSteps := 1000000) only [go_sem, ↓reduceIte, Nat.reduceAdd, Nat.reduceSub, Nat.reduceMul, Nat.reduceLT, Nat.reduceLeDiff, Nat.reduceEqDiff, Nat.reduceBEq, Nat.reduceBNe, Int.reduceToNat, Int.reduceLT, Int.reduceLE, Int.reduceNeg, reduceCtorEq, Int.reduceEq, Int.reduceNe, hm, List.getElem?_map, Int.toNat_natCast, Int.natCast_nonneg, getT hml2]
      refine QFn.use _ (compare50 (l.getD m zT) ⟨a, b, [], 0⟩) (by simp -dsimp -implicitDefEqProofs (maxSteps := 1000000) only [go_sem, ↓reduceIte, Nat.reduceAdd, Nat.reduceSub, Nat.reduceMul, Nat.reduceLT, Nat.reduceLeDiff, Nat.reduceEqDiff, Nat.reduceBEq, Nat.reduceBNe, Int.reduceToNat, Int.reduceLT, Int.reduceLE, Int.reduceNeg, reduceCtorEq, Int.reduceEq, Int.reduceNe]) ?_
      simp -dsimp -implicitDefEqProofs (maxSteps := 1000000) only [go_sem, ↓reduceIte, Nat.reduceAdd, Nat.reduceSub, Nat.reduceMul, Nat.reduceLT, Nat.reduceLeDiff, Nat.reduceEqDiff, Nat.reduceBEq, Nat.reduceBNe, Int.reduceToNat, Int.reduceLT, Int.reduceLE, Int.reduceNeg, reduceCtorEq, Int.reduceEq, Int.reduceNe, e1]
      have hc0 : cmpR (l.getD m zT) ⟨a, b, [], 0⟩ = cmpP ((l.map toRu).getD m zR) (tg a b) := by rw [hg]; rfl
      rw [hc0]
      refine ⟨fun hc => ?_, fun hc => ?_⟩
      · refine ⟨⟨(m + 1, hi), by show m + 1 ≤ hi; omega, h2, fun j hj => ?_, h4⟩, by show hi - (m + 1) < hi - lo; omega, Le.tl (Ls := []) (y := none) [] ?_ ?_ (by simp) (by simp [sg]) trivial⟩
        · simp only at hj
          by_cases hjm : j = m
          · subst hjm; exact hc
          · have := rise_lt hr m j (by omega) (by rw [hml]; exact hml2)
            rw [cmpP_neg] at this hc ⊢
            omega
        · simp -dsimp -implicitDefEqProofs (maxSteps := 1000000) only [go_sem, ↓reduceIte, Nat.reduceAdd, Nat.reduceSub, Nat.reduceMul, Nat.reduceLT, Nat.reduceLeDiff, Nat.reduceEqDiff, Nat.reduceBEq, Nat.reduceBNe, Int.reduceToNat, Int.reduceLT, Int.reduceLE, Int.reduceNeg, reduceCtorEq, Int.reduceEq, Int.reduceNe]
          exact .cl (by simp [Cl_fn])
        · simp -dsimp -implicitDefEqProofs (maxSteps := 1000000) only [go_sem, ↓reduceIte, Nat.reduceAdd, Nat.reduceSub, Nat.reduceMul, Nat.reduceLT, Nat.reduceLeDiff, Nat.reduceEqDiff, Nat.reduceBEq, Nat.reduceBNe, Int.reduceToNat, Int.reduceLT, Int.reduceLE, Int.reduceNeg, reduceCtorEq, Int.reduceEq, Int.reduceNe]
          exact renL_cl rfl (by simp -dsimp -implicitDefEqProofs (maxSteps := 1000000) only [go_sem, ↓reduceIte, Nat.reduceAdd, Nat.reduceSub, Nat.reduceMul, Nat.reduceLT, Nat.reduceLeDiff, Nat.reduceEqDiff, Nat.reduceBEq, Nat.reduceBNe, Int.reduceToNat, Int.reduceLT, Int.reduceLE, Int.reduceNeg, reduceCtorEq, Int.reduceEq, Int.reduceNe])
      · refine ⟨⟨(lo, m), by show lo ≤ m; omega, by show m ≤ l.length; omega, h3, fun j hj hjl => ?_⟩, by show m - lo < hi - lo; omega, Le.tl (Ls := []) (y := none) [] ?_ ?_ (by simp) (by simp [sg]) trivial⟩
        · simp only at hj
          by_cases hjm : j = m
          · subst hjm; omega
          · have := rise_lt hr j m (by omega) (by rw [hml]; exact hjl)
            have hn : ¬ cmpP ((l.map toRu).getD j zR) (tg a b) < 0 := by
              rw [cmpP_neg] at this ⊢
              have hc' := hc
              rw [cmpP_neg] at hc'
              omega
            omega
        · simp -dsimp -implicitDefEqProofs (maxSteps := 1000000) only [go_sem, ↓reduceIte, Nat.reduceAdd, Nat.reduceSub, Nat.reduceMul, Nat.reduceLT, Nat.reduceLeDiff, Nat.reduceEqDiff, Nat.reduceBEq, Nat.reduceBNe, Int.reduceToNat, Int.reduceLT, Int.reduceLE, Int.reduceNeg, reduceCtorEq, Int.reduceEq, Int.reduceNe]
          exact .cl (by simp [Cl_fn])
        · simp -dsimp -implicitDefEqProofs (maxSteps := 1000000) only [go_sem, ↓reduceIte, Nat.reduceAdd, Nat.reduceSub, Nat.reduceMul, Nat.reduceLT, Nat.reduceLeDiff, Nat.reduceEqDiff, Nat.reduceBEq, Nat.reduceBNe, Int.reduceToNat, Int.reduceLT, Int.reduceLE, Int.reduceNeg, reduceCtorEq, Int.reduceEq, Int.reduceNe]
          exact renL_cl rfl (by simp -dsimp -implicitDefEqProofs (maxSteps := 1000000) only [go_sem, ↓reduceIte, Nat.reduceAdd, Nat.reduceSub, Nat.reduceMul, Nat.reduceLT, Nat.reduceLeDiff, Nat.reduceEqDiff, Nat.reduceBEq, Nat.reduceBNe, Int.reduceToNat, Int.reduceLT, Int.reduceLE, Int.reduceNeg, reduceCtorEq, Int.reduceEq, Int.reduceNe])
    · have hlh : hi = lo := by omega
      subst hlh
      obtain ⟨b1, b2⟩ := bs_end hr (by rw [hml]; exact h2) h3 (fun j hj hjl => h4 j hj (by rw [hml] at hjl; exact hjl))
      rw [b1, b2]
      refine AtCode.draw 16 [([], []), ([], []), ([], []), ([1, 2], []), ([1, 2, 3], []), ([1, 2, 3, 4], []), ([1, 2, 3, 4], []), ([1, 2, 3, 4], []), ([1, 2, 3, 4, 6, 7], []), ([1, 2, 3, 4, 6, 7, 8], []), ([1, 2, 3, 4], []), ([1, 2, 3, 4, 5, 6, 7, 8, 9, 10], []), ([1, 2, 3, 4, 5, 6, 7, 8, 9, 10, 11], []), ([1, 2, 3, 4, 5, 6, 7, 8, 9, 10, 11, 12], []), ([0, 1, 2, 3, 4, 5, 6, 7, 8, 9, 10, 11], []), ([0, 1, 2, 3, 4, 5, 6, 7, 8, 9, 10, 11, 12, 13, 14], [])] (by kernel_rfl) ?_
      by_cases hlt : hi < l.length
      · have hlt' : (hi : Int) < (l.length : Int) := by omega
        have hg := getTR hlt
        simp -dsimp -implicitDefEqProofs (maxSteps := 1000000) only [go_sem, ↓reduceIte, Nat.reduceAdd, Nat.reduceSub, Nat.reduceMul, Nat.reduceLT, Nat.reduceLeDiff, Nat.reduceEqDiff, Nat.reduceBEq, Nat.reduceBNe, Int.reduceToNat, Int.reduceLT, Int.reduceLE, Int.reduceNeg, reduceCtorEq, Int.reduceEq, Int.reduceNe, List.getElem?_map, Int.toNat_natCast, Int.natCast_nonneg, getT hlt, hlt']
        refine QFn.use _ (compare50 (l.getD hi zT) ⟨a, b, [], 0⟩) (by simp -dsimp -implicitDefEqProofs (maxSteps := 1000000) only [go_sem, ↓reduceIte, Nat.reduceAdd, Nat.reduceSub, Nat.reduceMul, Nat.reduceLT, Nat.reduceLeDiff, Nat.reduceEqDiff, Nat.reduceBEq, Nat.reduceBNe, Int.reduceToNat, Int.reduceLT, Int.reduceLE, Int.reduceNeg, reduceCtorEq, Int.reduceEq, Int.reduceNe]) ?_
        simp -dsimp -implicitDefEqProofs (maxSteps := 1000000) only [go_sem, ↓reduceIte, Nat.reduceAdd, Nat.reduceSub, Nat.reduceMul, Nat.reduceLT, Nat.reduceLeDiff, Nat.reduceEqDiff, Nat.reduceBEq, Nat.reduceBNe, Int.reduceToNat, Int.reduceLT, Int.reduceLE, Int.reduceNeg, reduceCtorEq, Int.reduceEq, Int.reduceNe]
        have hc0 : cmpR (l.getD hi zT) ⟨a, b, [], 0⟩ = cmpP ((l.map toRu).getD hi zR) (tg a b) := by rw [hg]; rfl
        rw [hc0]
        by_cases hz : cmpP ((l.map toRu).getD hi zR) (tg a b) = 0
        · rw [if_pos ⟨by rw [hml]; exact hlt, hz⟩]; simp only [hz, decide_true, Option.isSome_some]
        · rw [if_neg (fun h => hz h.2)]; simp only [hz, decide_false, Option.isSome_none]
      · have hlt' : ¬ (hi : Int) < (l.length : Int) := by omega
        simp -dsimp -implicitDefEqProofs (maxSteps := 1000000) only [go_sem, ↓reduceIte, Nat.reduceAdd, Nat.reduceSub, Nat.reduceMul, Nat.reduceLT, Nat.reduceLeDiff, Nat.reduceEqDiff, Nat.reduceBEq, Nat.reduceBNe, Int.reduceToNat, Int.reduceLT, Int.reduceLE, Int.reduceNeg, reduceCtorEq, Int.reduceEq, Int.reduceNe, hlt']
        rw [if_neg (fun h => hlt (by rw [← hml]; exact h.1))]; rfl
end

section
set_option maxRecDepth 20000
attribute [local go_sem] clIntsL clRusL clSets clSetsT'
/-- A number by which chars are told apart, as a rule's pair. -/
def toC (r : Ru) : Ru := ⟨r.f, 0, 0, 0⟩
theorem cmpC (a b : Ru) : cmpP (toC a) (toC b) = cmpZ a.f b.f := by
  show orZ (cmpZ a.f b.f) 0 = cmpZ a.f b.f
  unfold orZ
  split
  · rename_i h; exact h.symm
  · rfl
def inSize (x : Int) : Bool := decide (1 ≤ x) && decide (x ≤ 268435455)
theorem isSize74 (x : Int) : PFun Try.prog 74 [I x] (Bo (inSize x)) := by
  refine PFun.intro 400 mixed Try.func74 (by kernel_rfl) rfl (by first | exact .v _ | (simp [Cl_v, Cl_t, Cl_g, Cl_fn, Cl_rp, Cl_ro]; done) | (simp [Cl_v, Cl_t, Cl_g, Cl_fn, Cl_rp, Cl_ro, or_imp, forall_and]; done) | (split <;> simp [Cl_v, Cl_t, Cl_g, Cl_fn, Cl_rp, Cl_ro])) (Nat.le_of_ble_eq_true rfl) ?_; rw [Try.ntmps74, Try.results74]
  simp -dsimp -implicitDefEqProofs (maxSteps := 1000000) only [go_sem, ↓reduceIte, Nat.reduceAdd, Nat.reduceSub, Nat.reduceMul, Nat.reduceLT, Nat.reduceLeDiff, Nat.reduceEqDiff, Nat.reduceBEq, Nat.reduceBNe, Int.reduceToNat, Int.reduceLT, Int.reduceLE, Int.reduceNeg, reduceCtorEq, Int.reduceEq, Int.reduceNe]
  constructor <;> intro h <;> simp [inSize, h]
theorem size83 (x : Int) : PFun Try.prog 83 [I x] (Bo (inSize x)) := by
  refine PFun.intro 400 mixed Try.func83 (by kernel_rfl) rfl (by first | exact .v _ | (simp [Cl_v, Cl_t, Cl_g, Cl_fn, Cl_rp, Cl_ro]; done) | (simp [Cl_v, Cl_t, Cl_g, Cl_fn, Cl_rp, Cl_ro, or_imp, forall_and]; done) | (split <;> simp [Cl_v, Cl_t, Cl_g, Cl_fn, Cl_rp, Cl_ro])) (Nat.le_of_ble_eq_true rfl) ?_; rw [Try.ntmps83, Try.results83]
  simp -dsimp -implicitDefEqProofs (maxSteps := 1000000) only [go_sem, ↓reduceIte, Nat.reduceAdd, Nat.reduceSub, Nat.reduceMul, Nat.reduceLT, Nat.reduceLeDiff, Nat.reduceEqDiff, Nat.reduceBEq, Nat.reduceBNe, Int.reduceToNat, Int.reduceLT, Int.reduceLE, Int.reduceNeg, reduceCtorEq, Int.reduceEq, Int.reduceNe]
  constructor <;> intro h <;> simp [inSize, h]
/-- A char is valid. -/
def okC (c : Ru) : Bool := inCode c.f && inCoord c.n && inCoord c.o && inCoord c.v
theorem isChar76 (r : Ru) : PFun Try.prog 76 [RuA r] (Bo (okC r)) := by
  refine PFun.intro 400 mixed Try.func76 (by kernel_rfl) rfl (by first | exact .v _ | (simp [Cl_v, Cl_t, Cl_g, Cl_fn, Cl_rp, Cl_ro]; done) | (simp [Cl_v, Cl_t, Cl_g, Cl_fn, Cl_rp, Cl_ro, or_imp, forall_and]; done) | (split <;> simp [Cl_v, Cl_t, Cl_g, Cl_fn, Cl_rp, Cl_ro])) (Nat.le_of_ble_eq_true rfl) ?_; rw [Try.ntmps76, Try.results76]
  simp -dsimp -implicitDefEqProofs (maxSteps := 1000000) only [go_sem, ↓reduceIte, Nat.reduceAdd, Nat.reduceSub, Nat.reduceMul, Nat.reduceLT, Nat.reduceLeDiff, Nat.reduceEqDiff, Nat.reduceBEq, Nat.reduceBNe, Int.reduceToNat, Int.reduceLT, Int.reduceLE, Int.reduceNeg, reduceCtorEq, Int.reduceEq, Int.reduceNe]
  repeat' (first | (apply And.intro <;> (try intro _) <;> try simp -dsimp -implicitDefEqProofs (maxSteps := 1000000) only [go_sem, ↓reduceIte, Nat.reduceAdd, Nat.reduceSub, Nat.reduceMul, Nat.reduceLT, Nat.reduceLeDiff, Nat.reduceEqDiff, Nat.reduceBEq, Nat.reduceBNe, Int.reduceToNat, Int.reduceLT, Int.reduceLE, Int.reduceNeg, reduceCtorEq, Int.reduceEq, Int.reduceNe]) | (refine AtFn.pure0 (isCode87 _) ?_; try simp -dsimp -implicitDefEqProofs (maxSteps := 1000000) only [go_sem, ↓reduceIte, Nat.reduceAdd, Nat.reduceSub, Nat.reduceMul, Nat.reduceLT, Nat.reduceLeDiff, Nat.reduceEqDiff, Nat.reduceBEq, Nat.reduceBNe, Int.reduceToNat, Int.reduceLT, Int.reduceLE, Int.reduceNeg, reduceCtorEq, Int.reduceEq, Int.reduceNe]) | (refine AtFn.pure0 (isCoord88 _) ?_; try simp -dsimp -implicitDefEqProofs (maxSteps := 1000000) only [go_sem, ↓reduceIte, Nat.reduceAdd, Nat.reduceSub, Nat.reduceMul, Nat.reduceLT, Nat.reduceLeDiff, Nat.reduceEqDiff, Nat.reduceBEq, Nat.reduceBNe, Int.reduceToNat, Int.reduceLT, Int.reduceLE, Int.reduceNeg, reduceCtorEq, Int.reduceEq, Int.reduceNe]))
  all_goals simp_all [okC]
theorem char82 (r : Ru) : PFun Try.prog 82 [RuA r] (Bo (okC r)) := by
  refine PFun.intro 400 mixed Try.func82 (by kernel_rfl) rfl (by first | exact .v _ | (simp [Cl_v, Cl_t, Cl_g, Cl_fn, Cl_rp, Cl_ro]; done) | (simp [Cl_v, Cl_t, Cl_g, Cl_fn, Cl_rp, Cl_ro, or_imp, forall_and]; done) | (split <;> simp [Cl_v, Cl_t, Cl_g, Cl_fn, Cl_rp, Cl_ro])) (Nat.le_of_ble_eq_true rfl) ?_; rw [Try.ntmps82, Try.results82]
  simp -dsimp -implicitDefEqProofs (maxSteps := 1000000) only [go_sem, ↓reduceIte, Nat.reduceAdd, Nat.reduceSub, Nat.reduceMul, Nat.reduceLT, Nat.reduceLeDiff, Nat.reduceEqDiff, Nat.reduceBEq, Nat.reduceBNe, Int.reduceToNat, Int.reduceLT, Int.reduceLE, Int.reduceNeg, reduceCtorEq, Int.reduceEq, Int.reduceNe]
  repeat' (first | (apply And.intro <;> (try intro _) <;> try simp -dsimp -implicitDefEqProofs (maxSteps := 1000000) only [go_sem, ↓reduceIte, Nat.reduceAdd, Nat.reduceSub, Nat.reduceMul, Nat.reduceLT, Nat.reduceLeDiff, Nat.reduceEqDiff, Nat.reduceBEq, Nat.reduceBNe, Int.reduceToNat, Int.reduceLT, Int.reduceLE, Int.reduceNeg, reduceCtorEq, Int.reduceEq, Int.reduceNe]) | (refine AtFn.pure0 (code89 _) ?_; try simp -dsimp -implicitDefEqProofs (maxSteps := 1000000) only [go_sem, ↓reduceIte, Nat.reduceAdd, Nat.reduceSub, Nat.reduceMul, Nat.reduceLT, Nat.reduceLeDiff, Nat.reduceEqDiff, Nat.reduceBEq, Nat.reduceBNe, Int.reduceToNat, Int.reduceLT, Int.reduceLE, Int.reduceNeg, reduceCtorEq, Int.reduceEq, Int.reduceNe]) | (refine AtFn.pure0 (coord90 _) ?_; try simp -dsimp -implicitDefEqProofs (maxSteps := 1000000) only [go_sem, ↓reduceIte, Nat.reduceAdd, Nat.reduceSub, Nat.reduceMul, Nat.reduceLT, Nat.reduceLeDiff, Nat.reduceEqDiff, Nat.reduceBEq, Nat.reduceBNe, Int.reduceToNat, Int.reduceLT, Int.reduceLE, Int.reduceNeg, reduceCtorEq, Int.reduceEq, Int.reduceNe]))
  all_goals simp_all [okC]
theorem indexC (g : Nat) (caps : List AV) (hc : ∀ x ∈ caps, Cl x) (p : Ru → Bool) (hg : ∀ r, PFun Try.prog g (RuA r :: caps) (Bo (p r))) (l : List Ru) (hl : l.length < 2 ^ 62) : PFun Try.prog 97 [Rus l, .fn g caps] (I (idx p l)) := by
  have hfn : Cl (.fn g caps) := .fn hc
  refine PFun.intro 400 mixed Try.func97 (by kernel_rfl) rfl (by first | exact .v _ | (simp [Cl_v, Cl_t, Cl_g, Cl_fn, Cl_rp, Cl_ro]; done) | (simp [Cl_v, Cl_t, Cl_g, Cl_fn, Cl_rp, Cl_ro, or_imp, forall_and]; done) | (split <;> simp [Cl_v, Cl_t, Cl_g, Cl_fn, Cl_rp, Cl_ro])) (Nat.le_of_ble_eq_true rfl) ?_; rw [Try.ntmps97, Try.results97]
  simp -dsimp -implicitDefEqProofs (maxSteps := 1000000) only [go_sem, ↓reduceIte, Nat.reduceAdd, Nat.reduceSub, Nat.reduceMul, Nat.reduceLT, Nat.reduceLeDiff, Nat.reduceEqDiff, Nat.reduceBEq, Nat.reduceBNe, Int.reduceToNat, Int.reduceLT, Int.reduceLE, Int.reduceNeg, reduceCtorEq, Int.reduceEq, Int.reduceNe, List.length_map]
  refine ⟨{i : Nat // i ≤ l.length ∧ ∀ j, j < i → ∀ y, l[j]? = some y → p y = false}, fun i => ⟨19, tl [(0, Rus l), (1, .fn g caps), (4, I 0), (7, I l.length), (8, I i.1)], [], 0, .nil⟩, fun i => l.length - i.1,
    ⟨⟨0, by omega, by intro j h; omega⟩, Le.tl (Ls := []) (y := none) [] ?_ (by simp) (by simp) (by simp) trivial⟩, fun i => ?_⟩
  · simp -dsimp -implicitDefEqProofs (maxSteps := 1000000) only [go_sem, ↓reduceIte, Nat.reduceAdd, Nat.reduceSub, Nat.reduceMul, Nat.reduceLT, Nat.reduceLeDiff, Nat.reduceEqDiff, Nat.reduceBEq, Nat.reduceBNe, Int.reduceToNat, Int.reduceLT, Int.reduceLE, Int.reduceNeg, reduceCtorEq, Int.reduceEq, Int.reduceNe]
    exact .cl hfn
  · obtain ⟨i, hi, hall⟩ := i
    simp -dsimp -implicitDefEqProofs (maxSteps := 1000000) only [go_sem, ↓reduceIte, Nat.reduceAdd, Nat.reduceSub, Nat.reduceMul, Nat.reduceLT, Nat.reduceLeDiff, Nat.reduceEqDiff, Nat.reduceBEq, Nat.reduceBNe, Int.reduceToNat, Int.reduceLT, Int.reduceLE, Int.reduceNeg, reduceCtorEq, Int.reduceEq, Int.reduceNe]
    refine ⟨fun h => ?_, fun h => ?_⟩
    · have hlt : i < l.length := by omega
      have hp : l[i]? = some l[i] := List.getElem?_eq_getElem hlt
      simp -dsimp -implicitDefEqProofs (maxSteps := 1000000) only [go_sem, ↓reduceIte, Nat.reduceAdd, Nat.reduceSub, Nat.reduceMul, Nat.reduceLT, Nat.reduceLeDiff, Nat.reduceEqDiff, Nat.reduceBEq, Nat.reduceBNe, Int.reduceToNat, Int.reduceLT, Int.reduceLE, Int.reduceNeg, reduceCtorEq, Int.reduceEq, Int.reduceNe, List.getElem?_map, Int.toNat_natCast, Int.natCast_nonneg, hp]
      refine AtFn.pure0 (hg _) ?_
      simp -dsimp -implicitDefEqProofs (maxSteps := 1000000) only [go_sem, ↓reduceIte, Nat.reduceAdd, Nat.reduceSub, Nat.reduceMul, Nat.reduceLT, Nat.reduceLeDiff, Nat.reduceEqDiff, Nat.reduceBEq, Nat.reduceBNe, Int.reduceToNat, Int.reduceLT, Int.reduceLE, Int.reduceNeg, reduceCtorEq, Int.reduceEq, Int.reduceNe]
      refine ⟨hc, ?_⟩
      cases hb : p l[i]
      · simp -dsimp -implicitDefEqProofs (maxSteps := 1000000) only [go_sem, ↓reduceIte, Nat.reduceAdd, Nat.reduceSub, Nat.reduceMul, Nat.reduceLT, Nat.reduceLeDiff, Nat.reduceEqDiff, Nat.reduceBEq, Nat.reduceBNe, Int.reduceToNat, Int.reduceLT, Int.reduceLE, Int.reduceNeg, reduceCtorEq, Int.reduceEq, Int.reduceNe]
        refine ⟨⟨i + 1, by omega, fun j h' y hy => ?_⟩, by show l.length - (i + 1) < l.length - i; omega, Le.tl (Ls := []) (y := none) [] ?_ (by simp) (by simp) (by simp) trivial⟩
        · by_cases hj : j = i
          · subst hj; rw [hp] at hy; cases hy; exact hb
          · exact hall j (by omega) y hy
        · simp -dsimp -implicitDefEqProofs (maxSteps := 1000000) only [go_sem, ↓reduceIte, Nat.reduceAdd, Nat.reduceSub, Nat.reduceMul, Nat.reduceLT, Nat.reduceLeDiff, Nat.reduceEqDiff, Nat.reduceBEq, Nat.reduceBNe, Int.reduceToNat, Int.reduceLT, Int.reduceLE, Int.reduceNeg, reduceCtorEq, Int.reduceEq, Int.reduceNe]
          refine ⟨.cl hfn, ?_⟩
          rw [wr_in (by omega) (by omega)]
          rfl
      · simp -dsimp -implicitDefEqProofs (maxSteps := 1000000) only [go_sem, ↓reduceIte, Nat.reduceAdd, Nat.reduceSub, Nat.reduceMul, Nat.reduceLT, Nat.reduceLeDiff, Nat.reduceEqDiff, Nat.reduceBEq, Nat.reduceBNe, Int.reduceToNat, Int.reduceLT, Int.reduceLE, Int.reduceNeg, reduceCtorEq, Int.reduceEq, Int.reduceNe]
        rw [idx_some hp hb hall]
    · have hi' : i = l.length := by omega
      subst hi'
      rw [idx_none hall]
theorem containsC (g : Nat) (caps : List AV) (hc : ∀ x ∈ caps, Cl x) (p : Ru → Bool) (hg : ∀ r, PFun Try.prog g (RuA r :: caps) (Bo (p r))) (l : List Ru) (hl : l.length < 2 ^ 62) : PFun Try.prog 94 [Rus l, .fn g caps] (Bo (l.any p)) := by
  refine PFun.intro 400 mixed Try.func94 (by kernel_rfl) rfl (by first | exact .v _ | (simp [Cl_v, Cl_t, Cl_g, Cl_fn, Cl_rp, Cl_ro]; done) | (simp [Cl_v, Cl_t, Cl_g, Cl_fn, Cl_rp, Cl_ro, or_imp, forall_and]; done) | (split <;> simp [Cl_v, Cl_t, Cl_g, Cl_fn, Cl_rp, Cl_ro])) (Nat.le_of_ble_eq_true rfl) ?_; rw [Try.ntmps94, Try.results94]
  simp -dsimp -implicitDefEqProofs (maxSteps := 1000000) only [go_sem, ↓reduceIte, Nat.reduceAdd, Nat.reduceSub, Nat.reduceMul, Nat.reduceLT, Nat.reduceLeDiff, Nat.reduceEqDiff, Nat.reduceBEq, Nat.reduceBNe, Int.reduceToNat, Int.reduceLT, Int.reduceLE, Int.reduceNeg, reduceCtorEq, Int.reduceEq, Int.reduceNe]
  refine AtFn.pure0 (indexC g caps hc p hg l hl) ?_
  simp -dsimp -implicitDefEqProofs (maxSteps := 1000000) only [go_sem, ↓reduceIte, Nat.reduceAdd, Nat.reduceSub, Nat.reduceMul, Nat.reduceLT, Nat.reduceLeDiff, Nat.reduceEqDiff, Nat.reduceBEq, Nat.reduceBNe, Int.reduceToNat, Int.reduceLT, Int.reduceLE, Int.reduceNeg, reduceCtorEq, Int.reduceEq, Int.reduceNe]
  refine ⟨hc, ?_⟩
  rw [idx_any]
theorem notC (g : Nat) (p : Ru → Bool) (hg : ∀ r, PFun Try.prog g [RuA r] (Bo (p r))) (r : Ru) : PFun Try.prog 95 [RuA r, .rp [.fn g []] 0] (Bo (!p r)) := by
  refine PFun.intro 400 mixed Try.func95 (by kernel_rfl) rfl (by first | exact .v _ | (simp [Cl_v, Cl_t, Cl_g, Cl_fn, Cl_rp, Cl_ro]; done) | (simp [Cl_v, Cl_t, Cl_g, Cl_fn, Cl_rp, Cl_ro, or_imp, forall_and]; done) | (split <;> simp [Cl_v, Cl_t, Cl_g, Cl_fn, Cl_rp, Cl_ro])) (Nat.le_of_ble_eq_true rfl) ?_; rw [Try.ntmps95, Try.results95]
  simp -dsimp -implicitDefEqProofs (maxSteps := 1000000) only [go_sem, ↓reduceIte, Nat.reduceAdd, Nat.reduceSub, Nat.reduceMul, Nat.reduceLT, Nat.reduceLeDiff, Nat.reduceEqDiff, Nat.reduceBEq, Nat.reduceBNe, Int.reduceToNat, Int.reduceLT, Int.reduceLE, Int.reduceNeg, reduceCtorEq, Int.reduceEq, Int.reduceNe]
  refine AtFn.pure0 (hg _) ?_
  simp -dsimp -implicitDefEqProofs (maxSteps := 1000000) only [go_sem, ↓reduceIte, Nat.reduceAdd, Nat.reduceSub, Nat.reduceMul, Nat.reduceLT, Nat.reduceLeDiff, Nat.reduceEqDiff, Nat.reduceBEq, Nat.reduceBNe, Int.reduceToNat, Int.reduceLT, Int.reduceLE, Int.reduceNeg, reduceCtorEq, Int.reduceEq, Int.reduceNe]
theorem allC (g : Nat) (p : Ru → Bool) (hg : ∀ r, PFun Try.prog g [RuA r] (Bo (p r))) (l : List Ru) (hl : l.length < 2 ^ 62) : PFun Try.prog 75 [Rus l, .fn g []] (Bo (l.all p)) := by
  have hc : ∀ x ∈ [AV.rp [.fn g []] 0], Cl x := by simp [Cl_rp, Cl_fn]
  refine PFun.intro 400 mixed Try.func75 (by kernel_rfl) rfl (by first | exact .v _ | (simp [Cl_v, Cl_t, Cl_g, Cl_fn, Cl_rp, Cl_ro]; done) | (simp [Cl_v, Cl_t, Cl_g, Cl_fn, Cl_rp, Cl_ro, or_imp, forall_and]; done) | (split <;> simp [Cl_v, Cl_t, Cl_g, Cl_fn, Cl_rp, Cl_ro])) (Nat.le_of_ble_eq_true rfl) ?_; rw [Try.ntmps75, Try.results75]
  simp -dsimp -implicitDefEqProofs (maxSteps := 1000000) only [go_sem, ↓reduceIte, Nat.reduceAdd, Nat.reduceSub, Nat.reduceMul, Nat.reduceLT, Nat.reduceLeDiff, Nat.reduceEqDiff, Nat.reduceBEq, Nat.reduceBNe, Int.reduceToNat, Int.reduceLT, Int.reduceLE, Int.reduceNeg, reduceCtorEq, Int.reduceEq, Int.reduceNe]
  refine AtFn.pure (containsC 95 [.rp [.fn g []] 0] hc (fun r => !p r) (notC g p hg) l hl) ?_
  simp -dsimp -implicitDefEqProofs (maxSteps := 1000000) only [go_sem, ↓reduceIte, Nat.reduceAdd, Nat.reduceSub, Nat.reduceMul, Nat.reduceLT, Nat.reduceLeDiff, Nat.reduceEqDiff, Nat.reduceBEq, Nat.reduceBNe, Int.reduceToNat, Int.reduceLT, Int.reduceLE, Int.reduceNeg, reduceCtorEq, Int.reduceEq, Int.reduceNe]
  rw [show (!l.any fun r => !p r) = l.all p by rw [List.all_eq_not_any_not]]
theorem cmpCodes (a b : Ru) : PFun Try.prog 78 [RuA a, RuA b] (I (cmpZ a.f b.f)) := by
  refine PFun.intro 400 mixed Try.func78 (by kernel_rfl) rfl (by first | exact .v _ | (simp [Cl_v, Cl_t, Cl_g, Cl_fn, Cl_rp, Cl_ro]; done) | (simp [Cl_v, Cl_t, Cl_g, Cl_fn, Cl_rp, Cl_ro, or_imp, forall_and]; done) | (split <;> simp [Cl_v, Cl_t, Cl_g, Cl_fn, Cl_rp, Cl_ro])) (Nat.le_of_ble_eq_true rfl) ?_; rw [Try.ntmps78, Try.results78]
  simp -dsimp -implicitDefEqProofs (maxSteps := 1000000) only [go_sem, ↓reduceIte, Nat.reduceAdd, Nat.reduceSub, Nat.reduceMul, Nat.reduceLT, Nat.reduceLeDiff, Nat.reduceEqDiff, Nat.reduceBEq, Nat.reduceBNe, Int.reduceToNat, Int.reduceLT, Int.reduceLE, Int.reduceNeg, reduceCtorEq, Int.reduceEq, Int.reduceNe]
  refine AtFn.pure0 (compare _ _) ?_
  simp -dsimp -implicitDefEqProofs (maxSteps := 1000000) only [go_sem, ↓reduceIte, Nat.reduceAdd, Nat.reduceSub, Nat.reduceMul, Nat.reduceLT, Nat.reduceLeDiff, Nat.reduceEqDiff, Nat.reduceBEq, Nat.reduceBNe, Int.reduceToNat, Int.reduceLT, Int.reduceLE, Int.reduceNeg, reduceCtorEq, Int.reduceEq, Int.reduceNe]
def riseC (l : List Ru) : Bool := decide (∀ j, j < l.length → 1 ≤ j → cmpZ (l.getD (j - 1) zR).f (l.getD j zR).f < 0)
theorem getCR {l : List Ru} {i : Nat} (h : i < l.length) : (l.map toC).getD i zR = toC (l.getD i zR) := by simp [List.getD, h]
theorem riseC_eq (l : List Ru) : rise (l.map toC) = riseC l := by
  unfold rise riseC
  congr 1
  apply propext
  simp only [List.length_map]
  refine forall_congr' fun j => forall_congr' fun hj => forall_congr' fun h1 => ?_
  rw [getCR hj, getCR (by omega), cmpC]
theorem risingC (l : List Ru) (hl : l.length < 2 ^ 62) : PFun Try.prog 77 [Rus l, .fn 78 []] (Bo (riseC l)) := by
  refine PFun.intro 400 mixed Try.func77 (by kernel_rfl) rfl (by first | exact .v _ | (simp [Cl_v, Cl_t, Cl_g, Cl_fn, Cl_rp, Cl_ro]; done) | (simp [Cl_v, Cl_t, Cl_g, Cl_fn, Cl_rp, Cl_ro, or_imp, forall_and]; done) | (split <;> simp [Cl_v, Cl_t, Cl_g, Cl_fn, Cl_rp, Cl_ro])) (Nat.le_of_ble_eq_true rfl) ?_; rw [Try.ntmps77, Try.results77]
  simp -dsimp -implicitDefEqProofs (maxSteps := 1000000) only [go_sem, ↓reduceIte, Nat.reduceAdd, Nat.reduceSub, Nat.reduceMul, Nat.reduceLT, Nat.reduceLeDiff, Nat.reduceEqDiff, Nat.reduceBEq, Nat.reduceBNe, Int.reduceToNat, Int.reduceLT, Int.reduceLE, Int.reduceNeg, reduceCtorEq, Int.reduceEq, Int.reduceNe, List.length_map]
  refine ⟨{i : Nat // 1 ≤ i ∧ ∀ j, j < i → j < l.length → 1 ≤ j → cmpZ (l.getD (j - 1) zR).f (l.getD j zR).f < 0}, fun i => ⟨24, tl [(0, Rus l), (1, .fn 78 []), (5, I i.1)], [], 0, .nil⟩, fun i => l.length - i.1,
    ⟨⟨1, by omega, by intro j h; omega⟩, Le.tl (Ls := []) (y := none) [] ?_ (by simp) (by simp) (by simp) trivial⟩, fun i => ?_⟩
  · simp -dsimp -implicitDefEqProofs (maxSteps := 1000000) only [go_sem, ↓reduceIte, Nat.reduceAdd, Nat.reduceSub, Nat.reduceMul, Nat.reduceLT, Nat.reduceLeDiff, Nat.reduceEqDiff, Nat.reduceBEq, Nat.reduceBNe, Int.reduceToNat, Int.reduceLT, Int.reduceLE, Int.reduceNeg, reduceCtorEq, Int.reduceEq, Int.reduceNe]
    exact .cl (by simp [Cl_fn])
  · obtain ⟨i, hi, hall⟩ := i
    simp -dsimp -implicitDefEqProofs (maxSteps := 1000000) only [go_sem, ↓reduceIte, Nat.reduceAdd, Nat.reduceSub, Nat.reduceMul, Nat.reduceLT, Nat.reduceLeDiff, Nat.reduceEqDiff, Nat.reduceBEq, Nat.reduceBNe, Int.reduceToNat, Int.reduceLT, Int.reduceLE, Int.reduceNeg, reduceCtorEq, Int.reduceEq, Int.reduceNe, List.length_map]
    refine ⟨fun h => ?_, fun h => ?_⟩
    · have hlt : i < l.length := by omega
      have e1 : wr ((i : Int) - 1) = ((i - 1 : Nat) : Int) := by rw [wr_in] <;> omega
      refine AtCode.draw 12 [([], []), ([], []), ([], []), ([2], []), ([1, 2, 3], []), ([1, 2, 3, 4], []), ([], []), ([], []), ([6, 7], []), ([6, 7, 8], []), ([0, 1, 2, 3, 4, 5, 6, 7, 8, 9], []), ([0, 1, 2, 3, 4, 5, 6, 7, 8, 9, 10], [])] (by kernel_rfl) ?_
      simp -dsimp -implicitDefEqProofs (maxSteps := 1000000) only [go_sem, ↓reduceIte, Nat.reduceAdd, Nat.reduceSub, Nat.reduceMul, Nat.reduceLT, Nat.reduceLeDiff, Nat.reduceEqDiff, Nat.reduceBEq, Nat.reduceBNe, Int.reduceToNat, Int.reduceLT, Int.reduceLE, Int.reduceNeg, reduceCtorEq, Int.reduceEq, Int.reduceNe, List.getElem?_map, Int.toNat_natCast, Int.natCast_nonneg, e1, getR hlt, getR (show i - 1 < l.length by omega)]
      refine QFn.use _ (cmpCodes _ _) (by simp -dsimp -implicitDefEqProofs (maxSteps := 1000000) only [go_sem, ↓reduceIte, Nat.reduceAdd, Nat.reduceSub, Nat.reduceMul, Nat.reduceLT, Nat.reduceLeDiff, Nat.reduceEqDiff, Nat.reduceBEq, Nat.reduceBNe, Int.reduceToNat, Int.reduceLT, Int.reduceLE, Int.reduceNeg, reduceCtorEq, Int.reduceEq, Int.reduceNe]) ?_
      simp -dsimp -implicitDefEqProofs (maxSteps := 1000000) only [go_sem, ↓reduceIte, Nat.reduceAdd, Nat.reduceSub, Nat.reduceMul, Nat.reduceLT, Nat.reduceLeDiff, Nat.reduceEqDiff, Nat.reduceBEq, Nat.reduceBNe, Int.reduceToNat, Int.reduceLT, Int.reduceLE, Int.reduceNeg, reduceCtorEq, Int.reduceEq, Int.reduceNe]
      refine ⟨fun hc => ?_, fun hc => ?_⟩
      · have hr : riseC l = false := by
          simp only [riseC, decide_eq_false_iff_not]
          intro hh
          have := hh i hlt hi
          omega
        rw [hr]
      · refine ⟨⟨i + 1, by omega, fun j hj hjl h1 => ?_⟩, by show l.length - (i + 1) < l.length - i; omega, Le.tl (Ls := []) (y := none) [] ?_ (by simp) (by simp) (by simp) trivial⟩
        · by_cases hji : j = i
          · subst hji; omega
          · exact hall j (by omega) hjl h1
        · simp -dsimp -implicitDefEqProofs (maxSteps := 1000000) only [go_sem, ↓reduceIte, Nat.reduceAdd, Nat.reduceSub, Nat.reduceMul, Nat.reduceLT, Nat.reduceLeDiff, Nat.reduceEqDiff, Nat.reduceBEq, Nat.reduceBNe, Int.reduceToNat, Int.reduceLT, Int.reduceLE, Int.reduceNeg, reduceCtorEq, Int.reduceEq, Int.reduceNe]
          refine ⟨.cl (by simp [Cl_fn]), ?_⟩
          rw [wr_in (by omega) (by omega)]
          rfl
    · have hr : riseC l = true := by
        simp only [riseC, decide_eq_true_eq]
        exact fun j hj h1 => hall j (by omega) hj h1
      rw [hr]
theorem search81 (l : List Ru) (a : Int) (hl : l.length < 2 ^ 40) (hr : rise (l.map toC) = true) : PFun Try.prog 81 [Rus l, RuA ⟨a, 0, 0, 0⟩, .fn 78 []] (.t [I ((l.map toC).findIdx fun r => decide (0 ≤ cmpP r (tg a 0))), Bo (ruleOf (l.map toC) a 0).isSome]) := by
  have hml : (l.map toC).length = l.length := List.length_map ..
  refine PFun.intro 400 mixed Try.func81 (by kernel_rfl) rfl (by first | exact .v _ | (simp [Cl_v, Cl_t, Cl_g, Cl_fn, Cl_rp, Cl_ro]; done) | (simp [Cl_v, Cl_t, Cl_g, Cl_fn, Cl_rp, Cl_ro, or_imp, forall_and]; done) | (split <;> simp [Cl_v, Cl_t, Cl_g, Cl_fn, Cl_rp, Cl_ro])) (Nat.le_of_ble_eq_true rfl) ?_; rw [Try.ntmps81, Try.results81]
  simp -dsimp -implicitDefEqProofs (maxSteps := 1000000) only [go_sem, ↓reduceIte, Nat.reduceAdd, Nat.reduceSub, Nat.reduceMul, Nat.reduceLT, Nat.reduceLeDiff, Nat.reduceEqDiff, Nat.reduceBEq, Nat.reduceBNe, Int.reduceToNat, Int.reduceLT, Int.reduceLE, Int.reduceNeg, reduceCtorEq, Int.reduceEq, Int.reduceNe, List.length_map]
  refine ⟨{p : Nat × Nat // p.1 ≤ p.2 ∧ p.2 ≤ l.length ∧ (∀ j, j < p.1 → cmpP ((l.map toC).getD j zR) (tg a 0) < 0) ∧ (∀ j, p.2 ≤ j → j < l.length → 0 ≤ cmpP ((l.map toC).getD j zR) (tg a 0))},
    fun p => ⟨49, tl [(0, Rus l), (2, .fn 78 []), (4, .ptr 0 0 0), (8, I l.length), (9, I p.1.1), (10, I p.1.2)], [(0, ⟨4, [[I a, I 0, I 0, I 0]]⟩)], 1, .nil⟩, fun p => p.1.2 - p.1.1,
    ⟨⟨(0, l.length), by omega, by omega, by intro j h; omega, by intro j h h'; omega⟩, Le.tl (Ls := []) (y := none) [] ?_ ?_ (by simp) (by simp [sg]) trivial⟩, fun i => ?_⟩
  · simp -dsimp -implicitDefEqProofs (maxSteps := 1000000) only [go_sem, ↓reduceIte, Nat.reduceAdd, Nat.reduceSub, Nat.reduceMul, Nat.reduceLT, Nat.reduceLeDiff, Nat.reduceEqDiff, Nat.reduceBEq, Nat.reduceBNe, Int.reduceToNat, Int.reduceLT, Int.reduceLE, Int.reduceNeg, reduceCtorEq, Int.reduceEq, Int.reduceNe]
    exact .cl (by simp [Cl_fn])
  · simp -dsimp -implicitDefEqProofs (maxSteps := 1000000) only [go_sem, ↓reduceIte, Nat.reduceAdd, Nat.reduceSub, Nat.reduceMul, Nat.reduceLT, Nat.reduceLeDiff, Nat.reduceEqDiff, Nat.reduceBEq, Nat.reduceBNe, Int.reduceToNat, Int.reduceLT, Int.reduceLE, Int.reduceNeg, reduceCtorEq, Int.reduceEq, Int.reduceNe]
    exact renL_cl rfl (by simp -dsimp -implicitDefEqProofs (maxSteps := 1000000) only [go_sem, ↓reduceIte, Nat.reduceAdd, Nat.reduceSub, Nat.reduceMul, Nat.reduceLT, Nat.reduceLeDiff, Nat.reduceEqDiff, Nat.reduceBEq, Nat.reduceBNe, Int.reduceToNat, Int.reduceLT, Int.reduceLE, Int.reduceNeg, reduceCtorEq, Int.reduceEq, Int.reduceNe])
  · obtain ⟨⟨lo, hi⟩, h1, h2, h3, h4⟩ := i
    simp only at h1 h2 h3 h4
    simp -dsimp -implicitDefEqProofs (maxSteps := 1000000) only [go_sem, ↓reduceIte, Nat.reduceAdd, Nat.reduceSub, Nat.reduceMul, Nat.reduceLT, Nat.reduceLeDiff, Nat.reduceEqDiff, Nat.reduceBEq, Nat.reduceBNe, Int.reduceToNat, Int.reduceLT, Int.reduceLE, Int.reduceNeg, reduceCtorEq, Int.reduceEq, Int.reduceNe, List.length_map]
    refine ⟨fun h => ?_, fun h => ?_⟩
    · have hm := mid_eq lo hi h1 (by omega)
      obtain ⟨m, hmd⟩ : ∃ m, m = (lo + hi) / 2 := ⟨_, rfl⟩
      rw [← hmd] at hm
      have hml2 : m < l.length := by omega
      have e1 : wr ((m : Int) + 1) = ((m + 1 : Nat) : Int) := by rw [wr_in] <;> omega
      have hg := getCR hml2
      refine AtCode.draw 8 [([], []), ([], []), ([], []), ([1, 2], []), ([1, 2, 3], []), ([], []), ([0, 1, 2, 3, 4, 5], []), ([0, 1, 2, 3, 4, 5, 6], [])] (by kernel_rfl) ?_
      simp -dsimp -implicitDefEqProofs (maxSteps := 1000000) only [go_sem, ↓reduceIte, Nat.reduceAdd, Nat.reduceSub, Nat.reduceMul, Nat.reduceLT, Nat.reduceLeDiff, Nat.reduceEqDiff, Nat.reduceBEq, Nat.reduceBNe, Int.reduceToNat, Int.reduceLT, Int.reduceLE, Int.reduceNeg, reduceCtorEq, Int.reduceEq, Int.reduceNe, hm, List.getElem?_map, Int.toNat_natCast, Int.natCast_nonneg, getR hml2]
      refine QFn.use _ (cmpCodes (l.getD m zR) ⟨a, 0, 0, 0⟩) (by simp -dsimp -implicitDefEqProofs (maxSteps := 1000000) only [go_sem, ↓reduceIte, Nat.reduceAdd, Nat.reduceSub, Nat.reduceMul, Nat.reduceLT, Nat.reduceLeDiff, Nat.reduceEqDiff, Nat.reduceBEq, Nat.reduceBNe, Int.reduceToNat, Int.reduceLT, Int.reduceLE, Int.reduceNeg, reduceCtorEq, Int.reduceEq, Int.reduceNe]) ?_
      simp -dsimp -implicitDefEqProofs (maxSteps := 1000000) only [go_sem, ↓reduceIte, Nat.reduceAdd, Nat.reduceSub, Nat.reduceMul, Nat.reduceLT, Nat.reduceLeDiff, Nat.reduceEqDiff, Nat.reduceBEq, Nat.reduceBNe, Int.reduceToNat, Int.reduceLT, Int.reduceLE, Int.reduceNeg, reduceCtorEq, Int.reduceEq, Int.reduceNe, e1]
      have hc0 : cmpZ (l.getD m zR).f a = cmpP ((l.map toC).getD m zR) (tg a 0) := by rw [hg]; exact (cmpC (l.getD _ zR) ⟨a, 0, 0, 0⟩).symm
      rw [hc0]
      refine ⟨fun hc => ?_, fun hc => ?_⟩
      · refine ⟨⟨(m + 1, hi), by show m + 1 ≤ hi; omega, h2, fun j hj => ?_, h4⟩, by show hi - (m + 1) < hi - lo; omega, Le.tl (Ls := []) (y := none) [] ?_ ?_ (by simp) (by simp [sg]) trivial⟩
        · simp only at hj
          by_cases hjm : j = m
          · subst hjm; exact hc
          · have := rise_lt hr m j (by omega) (by rw [hml]; exact hml2)
            rw [cmpP_neg] at this hc ⊢
            omega
        · simp -dsimp -implicitDefEqProofs (maxSteps := 1000000) only [go_sem, ↓reduceIte, Nat.reduceAdd, Nat.reduceSub, Nat.reduceMul, Nat.reduceLT, Nat.reduceLeDiff, Nat.reduceEqDiff, Nat.reduceBEq, Nat.reduceBNe, Int.reduceToNat, Int.reduceLT, Int.reduceLE, Int.reduceNeg, reduceCtorEq, Int.reduceEq, Int.reduceNe]
          exact .cl (by simp [Cl_fn])
        · simp -dsimp -implicitDefEqProofs (maxSteps := 1000000) only [go_sem, ↓reduceIte, Nat.reduceAdd, Nat.reduceSub, Nat.reduceMul, Nat.reduceLT, Nat.reduceLeDiff, Nat.reduceEqDiff, Nat.reduceBEq, Nat.reduceBNe, Int.reduceToNat, Int.reduceLT, Int.reduceLE, Int.reduceNeg, reduceCtorEq, Int.reduceEq, Int.reduceNe]
          exact renL_cl rfl (by simp -dsimp -implicitDefEqProofs (maxSteps := 1000000) only [go_sem, ↓reduceIte, Nat.reduceAdd, Nat.reduceSub, Nat.reduceMul, Nat.reduceLT, Nat.reduceLeDiff, Nat.reduceEqDiff, Nat.reduceBEq, Nat.reduceBNe, Int.reduceToNat, Int.reduceLT, Int.reduceLE, Int.reduceNeg, reduceCtorEq, Int.reduceEq, Int.reduceNe])
      · refine ⟨⟨(lo, m), by show lo ≤ m; omega, by show m ≤ l.length; omega, h3, fun j hj hjl => ?_⟩, by show m - lo < hi - lo; omega, Le.tl (Ls := []) (y := none) [] ?_ ?_ (by simp) (by simp [sg]) trivial⟩
        · simp only at hj
          by_cases hjm : j = m
          · subst hjm; omega
          · have := rise_lt hr j m (by omega) (by rw [hml]; exact hjl)
            have hn : ¬ cmpP ((l.map toC).getD j zR) (tg a 0) < 0 := by
              rw [cmpP_neg] at this ⊢
              have hc' := hc
              rw [cmpP_neg] at hc'
              omega
            omega
        · simp -dsimp -implicitDefEqProofs (maxSteps := 1000000) only [go_sem, ↓reduceIte, Nat.reduceAdd, Nat.reduceSub, Nat.reduceMul, Nat.reduceLT, Nat.reduceLeDiff, Nat.reduceEqDiff, Nat.reduceBEq, Nat.reduceBNe, Int.reduceToNat, Int.reduceLT, Int.reduceLE, Int.reduceNeg, reduceCtorEq, Int.reduceEq, Int.reduceNe]
          exact .cl (by simp [Cl_fn])
        · simp -dsimp -implicitDefEqProofs (maxSteps := 1000000) only [go_sem, ↓reduceIte, Nat.reduceAdd, Nat.reduceSub, Nat.reduceMul, Nat.reduceLT, Nat.reduceLeDiff, Nat.reduceEqDiff, Nat.reduceBEq, Nat.reduceBNe, Int.reduceToNat, Int.reduceLT, Int.reduceLE, Int.reduceNeg, reduceCtorEq, Int.reduceEq, Int.reduceNe]
          exact renL_cl rfl (by simp -dsimp -implicitDefEqProofs (maxSteps := 1000000) only [go_sem, ↓reduceIte, Nat.reduceAdd, Nat.reduceSub, Nat.reduceMul, Nat.reduceLT, Nat.reduceLeDiff, Nat.reduceEqDiff, Nat.reduceBEq, Nat.reduceBNe, Int.reduceToNat, Int.reduceLT, Int.reduceLE, Int.reduceNeg, reduceCtorEq, Int.reduceEq, Int.reduceNe])
    · have hlh : hi = lo := by omega
      subst hlh
      obtain ⟨b1, b2⟩ := bs_end hr (by rw [hml]; exact h2) h3 (fun j hj hjl => h4 j hj (by rw [hml] at hjl; exact hjl))
      rw [b1, b2]
      refine AtCode.draw 16 [([], []), ([], []), ([], []), ([1, 2], []), ([1, 2, 3], []), ([1, 2, 3, 4], []), ([1, 2, 3, 4], []), ([1, 2, 3, 4], []), ([1, 2, 3, 4, 6, 7], []), ([1, 2, 3, 4, 6, 7, 8], []), ([1, 2, 3, 4], []), ([1, 2, 3, 4, 5, 6, 7, 8, 9, 10], []), ([1, 2, 3, 4, 5, 6, 7, 8, 9, 10, 11], []), ([1, 2, 3, 4, 5, 6, 7, 8, 9, 10, 11, 12], []), ([0, 1, 2, 3, 4, 5, 6, 7, 8, 9, 10, 11], []), ([0, 1, 2, 3, 4, 5, 6, 7, 8, 9, 10, 11, 12, 13, 14], [])] (by kernel_rfl) ?_
      by_cases hlt : hi < l.length
      · have hlt' : (hi : Int) < (l.length : Int) := by omega
        have hg := getCR hlt
        simp -dsimp -implicitDefEqProofs (maxSteps := 1000000) only [go_sem, ↓reduceIte, Nat.reduceAdd, Nat.reduceSub, Nat.reduceMul, Nat.reduceLT, Nat.reduceLeDiff, Nat.reduceEqDiff, Nat.reduceBEq, Nat.reduceBNe, Int.reduceToNat, Int.reduceLT, Int.reduceLE, Int.reduceNeg, reduceCtorEq, Int.reduceEq, Int.reduceNe, List.getElem?_map, Int.toNat_natCast, Int.natCast_nonneg, getR hlt, hlt']
        refine QFn.use _ (cmpCodes (l.getD hi zR) ⟨a, 0, 0, 0⟩) (by simp -dsimp -implicitDefEqProofs (maxSteps := 1000000) only [go_sem, ↓reduceIte, Nat.reduceAdd, Nat.reduceSub, Nat.reduceMul, Nat.reduceLT, Nat.reduceLeDiff, Nat.reduceEqDiff, Nat.reduceBEq, Nat.reduceBNe, Int.reduceToNat, Int.reduceLT, Int.reduceLE, Int.reduceNeg, reduceCtorEq, Int.reduceEq, Int.reduceNe]) ?_
        simp -dsimp -implicitDefEqProofs (maxSteps := 1000000) only [go_sem, ↓reduceIte, Nat.reduceAdd, Nat.reduceSub, Nat.reduceMul, Nat.reduceLT, Nat.reduceLeDiff, Nat.reduceEqDiff, Nat.reduceBEq, Nat.reduceBNe, Int.reduceToNat, Int.reduceLT, Int.reduceLE, Int.reduceNeg, reduceCtorEq, Int.reduceEq, Int.reduceNe]
        have hc0 : cmpZ (l.getD hi zR).f a = cmpP ((l.map toC).getD hi zR) (tg a 0) := by rw [hg]; exact (cmpC (l.getD _ zR) ⟨a, 0, 0, 0⟩).symm
        rw [hc0]
        by_cases hz : cmpP ((l.map toC).getD hi zR) (tg a 0) = 0
        · rw [if_pos ⟨by rw [hml]; exact hlt, hz⟩]; simp only [hz, decide_true, Option.isSome_some]
        · rw [if_neg (fun h => hz h.2)]; simp only [hz, decide_false, Option.isSome_none]
      · have hlt' : ¬ (hi : Int) < (l.length : Int) := by omega
        simp -dsimp -implicitDefEqProofs (maxSteps := 1000000) only [go_sem, ↓reduceIte, Nat.reduceAdd, Nat.reduceSub, Nat.reduceMul, Nat.reduceLT, Nat.reduceLeDiff, Nat.reduceEqDiff, Nat.reduceBEq, Nat.reduceBNe, Int.reduceToNat, Int.reduceLT, Int.reduceLE, Int.reduceNeg, reduceCtorEq, Int.reduceEq, Int.reduceNe, hlt']
        rw [if_neg (fun h => hlt (by rw [← hml]; exact h.1))]; rfl
abbrev MeA (z : Int) (cs rl : List Ru) : AV := .g [I z, Rus cs, Rus rl]
def validM (z : Int) (cs rl : List Ru) : Bool := inSize z && decide (cs.length ≤ 256) && cs.all okC && riseC cs && validR rl
theorem valid53 (z : Int) (cs rl : List Ru) (h1 : cs.length < 2 ^ 62) (h2 : rl.length < 2 ^ 62) : PFun Try.prog 53 [MeA z cs rl] (Bo (validM z cs rl)) := by
  refine PFun.intro 400 mixed Try.func53 (by kernel_rfl) rfl (by first | exact .v _ | (simp [Cl_v, Cl_t, Cl_g, Cl_fn, Cl_rp, Cl_ro]; done) | (simp [Cl_v, Cl_t, Cl_g, Cl_fn, Cl_rp, Cl_ro, or_imp, forall_and]; done) | (split <;> simp [Cl_v, Cl_t, Cl_g, Cl_fn, Cl_rp, Cl_ro])) (Nat.le_of_ble_eq_true rfl) ?_; rw [Try.ntmps53, Try.results53]
  simp -dsimp -implicitDefEqProofs (maxSteps := 1000000) only [go_sem, ↓reduceIte, Nat.reduceAdd, Nat.reduceSub, Nat.reduceMul, Nat.reduceLT, Nat.reduceLeDiff, Nat.reduceEqDiff, Nat.reduceBEq, Nat.reduceBNe, Int.reduceToNat, Int.reduceLT, Int.reduceLE, Int.reduceNeg, reduceCtorEq, Int.reduceEq, Int.reduceNe]
  refine AtFn.pure0 (isSize74 z) ?_
  simp -dsimp -implicitDefEqProofs (maxSteps := 1000000) only [go_sem, ↓reduceIte, Nat.reduceAdd, Nat.reduceSub, Nat.reduceMul, Nat.reduceLT, Nat.reduceLeDiff, Nat.reduceEqDiff, Nat.reduceBEq, Nat.reduceBNe, Int.reduceToNat, Int.reduceLT, Int.reduceLE, Int.reduceNeg, reduceCtorEq, Int.reduceEq, Int.reduceNe, List.length_map]
  cases hz : inSize z
  · simp -dsimp -implicitDefEqProofs (maxSteps := 1000000) only [go_sem, ↓reduceIte, Nat.reduceAdd, Nat.reduceSub, Nat.reduceMul, Nat.reduceLT, Nat.reduceLeDiff, Nat.reduceEqDiff, Nat.reduceBEq, Nat.reduceBNe, Int.reduceToNat, Int.reduceLT, Int.reduceLE, Int.reduceNeg, reduceCtorEq, Int.reduceEq, Int.reduceNe]
    simp only [validM, hz, Bool.false_and]
  · simp -dsimp -implicitDefEqProofs (maxSteps := 1000000) only [go_sem, ↓reduceIte, Nat.reduceAdd, Nat.reduceSub, Nat.reduceMul, Nat.reduceLT, Nat.reduceLeDiff, Nat.reduceEqDiff, Nat.reduceBEq, Nat.reduceBNe, Int.reduceToNat, Int.reduceLT, Int.reduceLE, Int.reduceNeg, reduceCtorEq, Int.reduceEq, Int.reduceNe, List.length_map]
    have e : decide ((cs.length : Int) ≤ 256) = decide (cs.length ≤ 256) := by congr 1; simp; omega
    refine ⟨fun hc => ?_, fun hc => ?_⟩
    · try simp -dsimp -implicitDefEqProofs (maxSteps := 1000000) only [go_sem, ↓reduceIte, Nat.reduceAdd, Nat.reduceSub, Nat.reduceMul, Nat.reduceLT, Nat.reduceLeDiff, Nat.reduceEqDiff, Nat.reduceBEq, Nat.reduceBNe, Int.reduceToNat, Int.reduceLT, Int.reduceLE, Int.reduceNeg, reduceCtorEq, Int.reduceEq, Int.reduceNe]
      refine AtFn.pure0 (allC 76 okC isChar76 cs h1) ?_
      simp -dsimp -implicitDefEqProofs (maxSteps := 1000000) only [go_sem, ↓reduceIte, Nat.reduceAdd, Nat.reduceSub, Nat.reduceMul, Nat.reduceLT, Nat.reduceLeDiff, Nat.reduceEqDiff, Nat.reduceBEq, Nat.reduceBNe, Int.reduceToNat, Int.reduceLT, Int.reduceLE, Int.reduceNeg, reduceCtorEq, Int.reduceEq, Int.reduceNe]
      have hc' : decide (cs.length ≤ 256) = true := by rw [decide_eq_true_eq]; omega
      cases ha : cs.all okC
      · simp -dsimp -implicitDefEqProofs (maxSteps := 1000000) only [go_sem, ↓reduceIte, Nat.reduceAdd, Nat.reduceSub, Nat.reduceMul, Nat.reduceLT, Nat.reduceLeDiff, Nat.reduceEqDiff, Nat.reduceBEq, Nat.reduceBNe, Int.reduceToNat, Int.reduceLT, Int.reduceLE, Int.reduceNeg, reduceCtorEq, Int.reduceEq, Int.reduceNe]
        simp only [validM, hz, ha, Bool.and_false, Bool.false_and]
      · simp -dsimp -implicitDefEqProofs (maxSteps := 1000000) only [go_sem, ↓reduceIte, Nat.reduceAdd, Nat.reduceSub, Nat.reduceMul, Nat.reduceLT, Nat.reduceLeDiff, Nat.reduceEqDiff, Nat.reduceBEq, Nat.reduceBNe, Int.reduceToNat, Int.reduceLT, Int.reduceLE, Int.reduceNeg, reduceCtorEq, Int.reduceEq, Int.reduceNe]
        refine AtFn.pure0 (risingC cs h1) ?_
        simp -dsimp -implicitDefEqProofs (maxSteps := 1000000) only [go_sem, ↓reduceIte, Nat.reduceAdd, Nat.reduceSub, Nat.reduceMul, Nat.reduceLT, Nat.reduceLeDiff, Nat.reduceEqDiff, Nat.reduceBEq, Nat.reduceBNe, Int.reduceToNat, Int.reduceLT, Int.reduceLE, Int.reduceNeg, reduceCtorEq, Int.reduceEq, Int.reduceNe]
        cases hr : riseC cs
        · simp -dsimp -implicitDefEqProofs (maxSteps := 1000000) only [go_sem, ↓reduceIte, Nat.reduceAdd, Nat.reduceSub, Nat.reduceMul, Nat.reduceLT, Nat.reduceLeDiff, Nat.reduceEqDiff, Nat.reduceBEq, Nat.reduceBNe, Int.reduceToNat, Int.reduceLT, Int.reduceLE, Int.reduceNeg, reduceCtorEq, Int.reduceEq, Int.reduceNe]
          simp only [validM, hz, ha, hr, Bool.and_false, Bool.false_and]
        · simp -dsimp -implicitDefEqProofs (maxSteps := 1000000) only [go_sem, ↓reduceIte, Nat.reduceAdd, Nat.reduceSub, Nat.reduceMul, Nat.reduceLT, Nat.reduceLeDiff, Nat.reduceEqDiff, Nat.reduceBEq, Nat.reduceBNe, Int.reduceToNat, Int.reduceLT, Int.reduceLE, Int.reduceNeg, reduceCtorEq, Int.reduceEq, Int.reduceNe]
          refine AtFn.pure0 (validRules rl h2) ?_
          simp -dsimp -implicitDefEqProofs (maxSteps := 1000000) only [go_sem, ↓reduceIte, Nat.reduceAdd, Nat.reduceSub, Nat.reduceMul, Nat.reduceLT, Nat.reduceLeDiff, Nat.reduceEqDiff, Nat.reduceBEq, Nat.reduceBNe, Int.reduceToNat, Int.reduceLT, Int.reduceLE, Int.reduceNeg, reduceCtorEq, Int.reduceEq, Int.reduceNe]
          simp only [validM, hz, ha, hr, hc', Bool.and_true, Bool.true_and]
    · try simp -dsimp -implicitDefEqProofs (maxSteps := 1000000) only [go_sem, ↓reduceIte, Nat.reduceAdd, Nat.reduceSub, Nat.reduceMul, Nat.reduceLT, Nat.reduceLeDiff, Nat.reduceEqDiff, Nat.reduceBEq, Nat.reduceBNe, Int.reduceToNat, Int.reduceLT, Int.reduceLE, Int.reduceNeg, reduceCtorEq, Int.reduceEq, Int.reduceNe]
      have hc' : decide (cs.length ≤ 256) = false := by rw [decide_eq_false_iff_not]; omega
      simp only [validM, hc', Bool.and_false, Bool.false_and]
end

section
set_option maxRecDepth 20000
attribute [local go_sem] clIntsL clRusL clSets clSetsT'
theorem cmpZ_neg (a b : Int) : cmpZ a b < 0 ↔ a < b := by
  unfold cmpZ
  repeat' split
  all_goals omega
theorem rValid56 (z : Int) (cs rl : List Ru) (h1 : cs.length < 2 ^ 62) (h2 : rl.length < 2 ^ 62) : PFun Try.prog 56 [MeA z cs rl] (Bo (validM z cs rl)) := by
  refine PFun.intro 400 mixed Try.func56 (by kernel_rfl) rfl (by first | exact .v _ | (simp [Cl_v, Cl_t, Cl_g, Cl_fn, Cl_rp, Cl_ro]; done) | (simp [Cl_v, Cl_t, Cl_g, Cl_fn, Cl_rp, Cl_ro, or_imp, forall_and]; done) | (split <;> simp [Cl_v, Cl_t, Cl_g, Cl_fn, Cl_rp, Cl_ro])) (Nat.le_of_ble_eq_true rfl) ?_; rw [Try.ntmps56, Try.results56]
  simp -dsimp -implicitDefEqProofs (maxSteps := 1000000) only [go_sem, ↓reduceIte, Nat.reduceAdd, Nat.reduceSub, Nat.reduceMul, Nat.reduceLT, Nat.reduceLeDiff, Nat.reduceEqDiff, Nat.reduceBEq, Nat.reduceBNe, Int.reduceToNat, Int.reduceLT, Int.reduceLE, Int.reduceNeg, reduceCtorEq, Int.reduceEq, Int.reduceNe, List.length_map]
  refine ⟨{i : Nat // i ≤ cs.length ∧ ∀ j, j < i → okC (cs.getD j zR) = true ∧ (1 ≤ j → cmpZ (cs.getD (j - 1) zR).f (cs.getD j zR).f < 0)}, fun i => ⟨47, tl [(1, .ptr 0 0 0), (6, Rus cs), (7, I cs.length), (8, I i.1)], [(0, ⟨3, [[I z, Rus cs, Rus rl]]⟩)], 1, .nil⟩, fun i => cs.length - i.1,
    ⟨⟨0, by omega, by intro j h; omega⟩, Le.tl (Ls := []) (y := none) [] ?_ ?_ (by simp) (by simp [sg]) trivial⟩, fun i => ?_⟩
  · simp -dsimp -implicitDefEqProofs (maxSteps := 1000000) only [go_sem, ↓reduceIte, Nat.reduceAdd, Nat.reduceSub, Nat.reduceMul, Nat.reduceLT, Nat.reduceLeDiff, Nat.reduceEqDiff, Nat.reduceBEq, Nat.reduceBNe, Int.reduceToNat, Int.reduceLT, Int.reduceLE, Int.reduceNeg, reduceCtorEq, Int.reduceEq, Int.reduceNe]
  · simp -dsimp -implicitDefEqProofs (maxSteps := 1000000) only [go_sem, ↓reduceIte, Nat.reduceAdd, Nat.reduceSub, Nat.reduceMul, Nat.reduceLT, Nat.reduceLeDiff, Nat.reduceEqDiff, Nat.reduceBEq, Nat.reduceBNe, Int.reduceToNat, Int.reduceLT, Int.reduceLE, Int.reduceNeg, reduceCtorEq, Int.reduceEq, Int.reduceNe]
    exact renL_F (by simp -dsimp -implicitDefEqProofs (maxSteps := 1000000) only [go_sem, ↓reduceIte, Nat.reduceAdd, Nat.reduceSub, Nat.reduceMul, Nat.reduceLT, Nat.reduceLeDiff, Nat.reduceEqDiff, Nat.reduceBEq, Nat.reduceBNe, Int.reduceToNat, Int.reduceLT, Int.reduceLE, Int.reduceNeg, reduceCtorEq, Int.reduceEq, Int.reduceNe])
  · obtain ⟨i, hi, hall⟩ := i
    simp -dsimp -implicitDefEqProofs (maxSteps := 1000000) only [go_sem, ↓reduceIte, Nat.reduceAdd, Nat.reduceSub, Nat.reduceMul, Nat.reduceLT, Nat.reduceLeDiff, Nat.reduceEqDiff, Nat.reduceBEq, Nat.reduceBNe, Int.reduceToNat, Int.reduceLT, Int.reduceLE, Int.reduceNeg, reduceCtorEq, Int.reduceEq, Int.reduceNe, List.length_map]
    refine ⟨fun h => ?_, fun h => ?_⟩
    · have hlt : i < cs.length := by omega
      simp -dsimp -implicitDefEqProofs (maxSteps := 1000000) only [go_sem, ↓reduceIte, Nat.reduceAdd, Nat.reduceSub, Nat.reduceMul, Nat.reduceLT, Nat.reduceLeDiff, Nat.reduceEqDiff, Nat.reduceBEq, Nat.reduceBNe, Int.reduceToNat, Int.reduceLT, Int.reduceLE, Int.reduceNeg, reduceCtorEq, Int.reduceEq, Int.reduceNe, List.getElem?_map, Int.toNat_natCast, Int.natCast_nonneg, getR hlt]
      refine AtCode.draw 19 [([], []), ([0], []), ([0, 1], []), ([0, 1, 2], []), ([0, 1, 2, 3], []), ([0, 1, 2, 3, 4], []), ([0, 1, 2, 3, 4, 5], []), ([0, 1, 2, 3, 4, 5, 6], []), ([0, 1, 2, 3, 4, 5, 6, 7], []), ([0, 1, 2, 3, 4, 5, 6], []), ([0, 1, 2, 3, 4, 5, 6, 9], []), ([0, 1, 2, 3, 4, 5, 6, 7, 8, 9, 10], []), ([0, 1, 2, 3, 4, 5, 6, 7, 8, 9, 10, 11], []), ([0, 1, 2, 3, 4, 5, 6, 7, 8, 9, 10, 11, 12], []), ([0, 1, 2, 3, 4, 5, 6], []), ([0, 1, 2, 3, 4, 5, 6, 14], []), ([0, 1, 2, 3, 4, 5, 6, 7, 8, 9, 10, 11, 12, 13, 14, 15], []), ([0, 1, 2, 3, 4, 5, 6, 7, 8, 9, 10, 11, 12, 13, 14, 15, 16], []), ([0, 1, 2, 3, 4, 5, 6, 7, 8, 9, 10, 11, 12, 13, 14, 15, 16, 17], [])] (by kernel_rfl) ?_
      simp -dsimp -implicitDefEqProofs (maxSteps := 1000000) only [go_sem, ↓reduceIte, Nat.reduceAdd, Nat.reduceSub, Nat.reduceMul, Nat.reduceLT, Nat.reduceLeDiff, Nat.reduceEqDiff, Nat.reduceBEq, Nat.reduceBNe, Int.reduceToNat, Int.reduceLT, Int.reduceLE, Int.reduceNeg, reduceCtorEq, Int.reduceEq, Int.reduceNe]
      refine QFn.use _ (char82 _) (by simp -dsimp -implicitDefEqProofs (maxSteps := 1000000) only [go_sem, ↓reduceIte, Nat.reduceAdd, Nat.reduceSub, Nat.reduceMul, Nat.reduceLT, Nat.reduceLeDiff, Nat.reduceEqDiff, Nat.reduceBEq, Nat.reduceBNe, Int.reduceToNat, Int.reduceLT, Int.reduceLE, Int.reduceNeg, reduceCtorEq, Int.reduceEq, Int.reduceNe]) ?_
      simp -dsimp -implicitDefEqProofs (maxSteps := 1000000) only [go_sem, ↓reduceIte, Nat.reduceAdd, Nat.reduceSub, Nat.reduceMul, Nat.reduceLT, Nat.reduceLeDiff, Nat.reduceEqDiff, Nat.reduceBEq, Nat.reduceBNe, Int.reduceToNat, Int.reduceLT, Int.reduceLE, Int.reduceNeg, reduceCtorEq, Int.reduceEq, Int.reduceNe]
      have hno : okC (cs.getD i zR) = false → validM z cs rl = false := by
        intro hk
        have : cs.all okC = false := by
          rw [List.all_eq_false]
          exact ⟨_, List.mem_of_getElem? (getR hlt), by simp only [hk]; simp⟩
        simp [validM, this]
      cases hk : okC (cs.getD i zR)
      · simp -dsimp -implicitDefEqProofs (maxSteps := 1000000) only [go_sem, ↓reduceIte, Nat.reduceAdd, Nat.reduceSub, Nat.reduceMul, Nat.reduceLT, Nat.reduceLeDiff, Nat.reduceEqDiff, Nat.reduceBEq, Nat.reduceBNe, Int.reduceToNat, Int.reduceLT, Int.reduceLE, Int.reduceNeg, reduceCtorEq, Int.reduceEq, Int.reduceNe]
        rw [hno hk]
      · simp -dsimp -implicitDefEqProofs (maxSteps := 1000000) only [go_sem, ↓reduceIte, Nat.reduceAdd, Nat.reduceSub, Nat.reduceMul, Nat.reduceLT, Nat.reduceLeDiff, Nat.reduceEqDiff, Nat.reduceBEq, Nat.reduceBNe, Int.reduceToNat, Int.reduceLT, Int.reduceLE, Int.reduceNeg, reduceCtorEq, Int.reduceEq, Int.reduceNe]
        refine ⟨fun h0 => ?_, fun h0 => ?_⟩
        · have e1 : wr ((i : Int) - 1) = ((i - 1 : Nat) : Int) := by rw [wr_in] <;> omega
          simp -dsimp -implicitDefEqProofs (maxSteps := 1000000) only [go_sem, ↓reduceIte, Nat.reduceAdd, Nat.reduceSub, Nat.reduceMul, Nat.reduceLT, Nat.reduceLeDiff, Nat.reduceEqDiff, Nat.reduceBEq, Nat.reduceBNe, Int.reduceToNat, Int.reduceLT, Int.reduceLE, Int.reduceNeg, reduceCtorEq, Int.reduceEq, Int.reduceNe, List.length_map, List.getElem?_map, Int.toNat_natCast, Int.natCast_nonneg, e1, getR (show i - 1 < cs.length by omega)]
          refine ⟨fun hc => ?_, fun hc => ?_⟩
          · have hr : riseC cs = false := by
              simp only [riseC, decide_eq_false_iff_not]
              intro hh
              have := hh i hlt (by omega)
              rw [cmpZ_neg] at this
              omega
            simp [validM, hr]
          · refine ⟨⟨i + 1, by omega, fun j hj => ?_⟩, by show cs.length - (i + 1) < cs.length - i; omega, Le.tl (Ls := []) (y := none) [] ?_ ?_ (by simp) (by simp [sg]) trivial⟩
            · by_cases hji : j = i
              · subst hji; exact ⟨hk, fun _ => by rw [cmpZ_neg]; omega⟩
              · exact hall j (by omega)
            · simp -dsimp -implicitDefEqProofs (maxSteps := 1000000) only [go_sem, ↓reduceIte, Nat.reduceAdd, Nat.reduceSub, Nat.reduceMul, Nat.reduceLT, Nat.reduceLeDiff, Nat.reduceEqDiff, Nat.reduceBEq, Nat.reduceBNe, Int.reduceToNat, Int.reduceLT, Int.reduceLE, Int.reduceNeg, reduceCtorEq, Int.reduceEq, Int.reduceNe]
              rw [wr_in (by omega) (by omega)]
              rfl
            · simp -dsimp -implicitDefEqProofs (maxSteps := 1000000) only [go_sem, ↓reduceIte, Nat.reduceAdd, Nat.reduceSub, Nat.reduceMul, Nat.reduceLT, Nat.reduceLeDiff, Nat.reduceEqDiff, Nat.reduceBEq, Nat.reduceBNe, Int.reduceToNat, Int.reduceLT, Int.reduceLE, Int.reduceNeg, reduceCtorEq, Int.reduceEq, Int.reduceNe]
              exact renL_F (by simp -dsimp -implicitDefEqProofs (maxSteps := 1000000) only [go_sem, ↓reduceIte, Nat.reduceAdd, Nat.reduceSub, Nat.reduceMul, Nat.reduceLT, Nat.reduceLeDiff, Nat.reduceEqDiff, Nat.reduceBEq, Nat.reduceBNe, Int.reduceToNat, Int.reduceLT, Int.reduceLE, Int.reduceNeg, reduceCtorEq, Int.reduceEq, Int.reduceNe])
        · refine ⟨⟨i + 1, by omega, fun j hj => ?_⟩, by show cs.length - (i + 1) < cs.length - i; omega, Le.tl (Ls := []) (y := none) [] ?_ ?_ (by simp) (by simp [sg]) trivial⟩
          · by_cases hji : j = i
            · subst hji; exact ⟨hk, fun h1 => by omega⟩
            · exact hall j (by omega)
          · simp -dsimp -implicitDefEqProofs (maxSteps := 1000000) only [go_sem, ↓reduceIte, Nat.reduceAdd, Nat.reduceSub, Nat.reduceMul, Nat.reduceLT, Nat.reduceLeDiff, Nat.reduceEqDiff, Nat.reduceBEq, Nat.reduceBNe, Int.reduceToNat, Int.reduceLT, Int.reduceLE, Int.reduceNeg, reduceCtorEq, Int.reduceEq, Int.reduceNe]
            rw [wr_in (by omega) (by omega)]
            rfl
          · simp -dsimp -implicitDefEqProofs (maxSteps := 1000000) only [go_sem, ↓reduceIte, Nat.reduceAdd, Nat.reduceSub, Nat.reduceMul, Nat.reduceLT, Nat.reduceLeDiff, Nat.reduceEqDiff, Nat.reduceBEq, Nat.reduceBNe, Int.reduceToNat, Int.reduceLT, Int.reduceLE, Int.reduceNeg, reduceCtorEq, Int.reduceEq, Int.reduceNe]
            exact renL_F (by simp -dsimp -implicitDefEqProofs (maxSteps := 1000000) only [go_sem, ↓reduceIte, Nat.reduceAdd, Nat.reduceSub, Nat.reduceMul, Nat.reduceLT, Nat.reduceLeDiff, Nat.reduceEqDiff, Nat.reduceBEq, Nat.reduceBNe, Int.reduceToNat, Int.reduceLT, Int.reduceLE, Int.reduceNeg, reduceCtorEq, Int.reduceEq, Int.reduceNe])
    · have hi' : i = cs.length := by omega
      subst hi'
      have ha : cs.all okC = true := by
        rw [List.all_eq_true]
        intro r hr
        obtain ⟨j, hj⟩ := List.getElem?_of_mem hr
        have hj' := (List.getElem?_eq_some_iff.1 hj).1
        have := (hall j hj').1
        rw [getR hj'] at hj; cases hj; exact this
      have hr : riseC cs = true := by
        simp only [riseC, decide_eq_true_eq]
        exact fun j hj h1 => (hall j hj).2 h1
      refine AtFn.pure0 (size83 z) ?_
      simp -dsimp -implicitDefEqProofs (maxSteps := 1000000) only [go_sem, ↓reduceIte, Nat.reduceAdd, Nat.reduceSub, Nat.reduceMul, Nat.reduceLT, Nat.reduceLeDiff, Nat.reduceEqDiff, Nat.reduceBEq, Nat.reduceBNe, Int.reduceToNat, Int.reduceLT, Int.reduceLE, Int.reduceNeg, reduceCtorEq, Int.reduceEq, Int.reduceNe]
      cases hz : inSize z
      · simp -dsimp -implicitDefEqProofs (maxSteps := 1000000) only [go_sem, ↓reduceIte, Nat.reduceAdd, Nat.reduceSub, Nat.reduceMul, Nat.reduceLT, Nat.reduceLeDiff, Nat.reduceEqDiff, Nat.reduceBEq, Nat.reduceBNe, Int.reduceToNat, Int.reduceLT, Int.reduceLE, Int.reduceNeg, reduceCtorEq, Int.reduceEq, Int.reduceNe]
        simp only [validM, hz, Bool.false_and]
      · simp -dsimp -implicitDefEqProofs (maxSteps := 1000000) only [go_sem, ↓reduceIte, Nat.reduceAdd, Nat.reduceSub, Nat.reduceMul, Nat.reduceLT, Nat.reduceLeDiff, Nat.reduceEqDiff, Nat.reduceBEq, Nat.reduceBNe, Int.reduceToNat, Int.reduceLT, Int.reduceLE, Int.reduceNeg, reduceCtorEq, Int.reduceEq, Int.reduceNe, List.length_map]
        refine ⟨fun hc => ?_, fun hc => ?_⟩
        · try simp -dsimp -implicitDefEqProofs (maxSteps := 1000000) only [go_sem, ↓reduceIte, Nat.reduceAdd, Nat.reduceSub, Nat.reduceMul, Nat.reduceLT, Nat.reduceLeDiff, Nat.reduceEqDiff, Nat.reduceBEq, Nat.reduceBNe, Int.reduceToNat, Int.reduceLT, Int.reduceLE, Int.reduceNeg, reduceCtorEq, Int.reduceEq, Int.reduceNe]
          have hc' : decide (cs.length ≤ 256) = true := by rw [decide_eq_true_eq]; omega
          refine AtFn.pure0 (rules41 rl h2) ?_
          simp -dsimp -implicitDefEqProofs (maxSteps := 1000000) only [go_sem, ↓reduceIte, Nat.reduceAdd, Nat.reduceSub, Nat.reduceMul, Nat.reduceLT, Nat.reduceLeDiff, Nat.reduceEqDiff, Nat.reduceBEq, Nat.reduceBNe, Int.reduceToNat, Int.reduceLT, Int.reduceLE, Int.reduceNeg, reduceCtorEq, Int.reduceEq, Int.reduceNe]
          simp only [validM, hz, ha, hr, hc', Bool.and_true, Bool.true_and]
        · try simp -dsimp -implicitDefEqProofs (maxSteps := 1000000) only [go_sem, ↓reduceIte, Nat.reduceAdd, Nat.reduceSub, Nat.reduceMul, Nat.reduceLT, Nat.reduceLeDiff, Nat.reduceEqDiff, Nat.reduceBEq, Nat.reduceBNe, Int.reduceToNat, Int.reduceLT, Int.reduceLE, Int.reduceNeg, reduceCtorEq, Int.reduceEq, Int.reduceNe]
          have hc' : decide (cs.length ≤ 256) = false := by rw [decide_eq_false_iff_not]; omega
          simp only [validM, hc', Bool.and_false, Bool.false_and]
/-- The char of a code. -/
def findC (cs : List Ru) (a : Int) : Option Ru := cs.find? fun c => decide (c.f = a)
theorem findC_rule (cs : List Ru) (a : Int) : ruleOf (cs.map toC) a 0 = (findC cs a).map toC := by
  unfold ruleOf findC
  rw [List.find?_map]
  congr 2
  funext c
  show (decide (c.f = a) && decide ((0 : Int) = 0)) = decide (c.f = a)
  simp
theorem findC_idx {cs : List Ru} {a : Int} {c : Ru} (hr : rise (cs.map toC) = true) (h : findC cs a = some c) : cs[(cs.map toC).findIdx fun r => decide (0 ≤ cmpP r (tg a 0))]? = some c ∧ ((cs.map toC).findIdx fun r => decide (0 ≤ cmpP r (tg a 0))) < cs.length := by
  have h1 : ruleOf (cs.map toC) a 0 = some (toC c) := by rw [findC_rule, h]; rfl
  obtain ⟨g1, g2⟩ := ruleOf_idx hr h1
  rw [List.length_map] at g2
  refine ⟨?_, g2⟩
  unfold findC at h
  rw [List.find?_eq_some_iff_getElem] at h
  obtain ⟨hh, i, hi, rfl, hn⟩ := h
  have hh2 : cs[i].f = a := by simpa using hh
  obtain ⟨lo, hlo⟩ : ∃ lo, lo = (cs.map toC).findIdx fun r => decide (0 ≤ cmpP r (tg a 0)) := ⟨_, rfl⟩
  rw [← hlo] at g1 g2 ⊢
  have he : lo = i := by
    have hgl : toC cs[lo] = toC cs[i] := by
      rw [List.getElem?_map, List.getElem?_eq_getElem g2] at g1
      simpa using g1
    have hf : cs[lo].f = cs[i].f := by
      have h9 := congrArg Ru.f hgl
      exact h9
    have hnlt : ¬ lo < i := fun h => by
      have := hn lo h
      simp [hf, hh2] at this
    by_cases hlt : i < lo
    · have := rise_lt hr lo i hlt (by rw [List.length_map]; exact g2)
      rw [getCR g2, getCR hi, cmpC, cmpZ_neg] at this
      simp [List.getD, g2, hi] at this
      omega
    · omega
  rw [he]
  exact List.getElem?_eq_getElem hi
abbrev findR (z : Int) (cs rl : List Ru) (a : Int) : AV := if validM z cs rl then (match findC cs a with | some c => .t [RuA c, I 0] | none => .t [RuA zR, I 4]) else .t [RuA zR, I 2]
theorem clFindR (z : Int) (cs rl : List Ru) (a : Int) : Cl (findR z cs rl a) := by
  unfold findR
  split
  · split <;> simp [Cl_t, Cl_v, Cl_g]
  · simp [Cl_t, Cl_v, Cl_g]
theorem validM_iff {z : Int} {cs rl : List Ru} (h : validM z cs rl = true) : cs.length ≤ 256 ∧ riseC cs = true := by
  simp only [validM, Bool.and_eq_true, decide_eq_true_eq] at h
  exact ⟨h.1.1.1.2, h.1.2⟩
theorem find55 (z : Int) (cs rl : List Ru) (a : Int) (h1 : cs.length < 2 ^ 62) (h2 : rl.length < 2 ^ 62) : PFun Try.prog 55 [MeA z cs rl, I a] (findR z cs rl a) := by
  refine PFun.intro 400 mixed Try.func55 (by kernel_rfl) rfl (clFindR z cs rl a) (Nat.le_of_ble_eq_true rfl) ?_; rw [Try.ntmps55, Try.results55]
  simp -dsimp -implicitDefEqProofs (maxSteps := 1000000) only [go_sem, ↓reduceIte, Nat.reduceAdd, Nat.reduceSub, Nat.reduceMul, Nat.reduceLT, Nat.reduceLeDiff, Nat.reduceEqDiff, Nat.reduceBEq, Nat.reduceBNe, Int.reduceToNat, Int.reduceLT, Int.reduceLE, Int.reduceNeg, reduceCtorEq, Int.reduceEq, Int.reduceNe]
  refine AtFn.pure0 (valid53 z cs rl h1 h2) ?_
  simp -dsimp -implicitDefEqProofs (maxSteps := 1000000) only [go_sem, ↓reduceIte, Nat.reduceAdd, Nat.reduceSub, Nat.reduceMul, Nat.reduceLT, Nat.reduceLeDiff, Nat.reduceEqDiff, Nat.reduceBEq, Nat.reduceBNe, Int.reduceToNat, Int.reduceLT, Int.reduceLE, Int.reduceNeg, reduceCtorEq, Int.reduceEq, Int.reduceNe]
  cases hv : validM z cs rl
  · simp -dsimp -implicitDefEqProofs (maxSteps := 1000000) only [go_sem, ↓reduceIte, Nat.reduceAdd, Nat.reduceSub, Nat.reduceMul, Nat.reduceLT, Nat.reduceLeDiff, Nat.reduceEqDiff, Nat.reduceBEq, Nat.reduceBNe, Int.reduceToNat, Int.reduceLT, Int.reduceLE, Int.reduceNeg, reduceCtorEq, Int.reduceEq, Int.reduceNe]
    simp only [findR, hv, Bool.false_eq_true, if_false]
    rfl
  · obtain ⟨hc, hr⟩ := validM_iff hv
    rw [← riseC_eq] at hr
    simp -dsimp -implicitDefEqProofs (maxSteps := 1000000) only [go_sem, ↓reduceIte, Nat.reduceAdd, Nat.reduceSub, Nat.reduceMul, Nat.reduceLT, Nat.reduceLeDiff, Nat.reduceEqDiff, Nat.reduceBEq, Nat.reduceBNe, Int.reduceToNat, Int.reduceLT, Int.reduceLE, Int.reduceNeg, reduceCtorEq, Int.reduceEq, Int.reduceNe]
    refine AtFn.pure0 (search81 cs a (by omega) hr) ?_
    rw [findC_rule, Option.isSome_map]
    simp -dsimp -implicitDefEqProofs (maxSteps := 1000000) only [go_sem, ↓reduceIte, Nat.reduceAdd, Nat.reduceSub, Nat.reduceMul, Nat.reduceLT, Nat.reduceLeDiff, Nat.reduceEqDiff, Nat.reduceBEq, Nat.reduceBNe, Int.reduceToNat, Int.reduceLT, Int.reduceLE, Int.reduceNeg, reduceCtorEq, Int.reduceEq, Int.reduceNe]
    cases hf : findC cs a with
    | none =>
      simp -dsimp -implicitDefEqProofs (maxSteps := 1000000) only [go_sem, ↓reduceIte, Nat.reduceAdd, Nat.reduceSub, Nat.reduceMul, Nat.reduceLT, Nat.reduceLeDiff, Nat.reduceEqDiff, Nat.reduceBEq, Nat.reduceBNe, Int.reduceToNat, Int.reduceLT, Int.reduceLE, Int.reduceNeg, reduceCtorEq, Int.reduceEq, Int.reduceNe]
      simp only [findR, hv, hf, if_true]
      rfl
    | some c =>
      obtain ⟨g1, g2⟩ := findC_idx hr hf
      have g3 : (((cs.map toC).findIdx fun r => decide (0 ≤ cmpP r (tg a 0)) : Nat) : Int) < (cs.length : Int) := by omega
      simp -dsimp -implicitDefEqProofs (maxSteps := 1000000) only [go_sem, ↓reduceIte, Nat.reduceAdd, Nat.reduceSub, Nat.reduceMul, Nat.reduceLT, Nat.reduceLeDiff, Nat.reduceEqDiff, Nat.reduceBEq, Nat.reduceBNe, Int.reduceToNat, Int.reduceLT, Int.reduceLE, Int.reduceNeg, reduceCtorEq, Int.reduceEq, Int.reduceNe, List.getElem?_map, Int.toNat_natCast, Int.natCast_nonneg, g1, g3, List.length_map]
      simp only [findR, hv, hf, if_true]
theorem rFind58 (z : Int) (cs rl : List Ru) (a : Int) (h1 : cs.length < 2 ^ 62) (h2 : rl.length < 2 ^ 62) : PFun Try.prog 58 [MeA z cs rl, I a] (findR z cs rl a) := by
  refine PFun.intro 400 mixed Try.func58 (by kernel_rfl) rfl (clFindR z cs rl a) (Nat.le_of_ble_eq_true rfl) ?_; rw [Try.ntmps58, Try.results58]
  simp -dsimp -implicitDefEqProofs (maxSteps := 1000000) only [go_sem, ↓reduceIte, Nat.reduceAdd, Nat.reduceSub, Nat.reduceMul, Nat.reduceLT, Nat.reduceLeDiff, Nat.reduceEqDiff, Nat.reduceBEq, Nat.reduceBNe, Int.reduceToNat, Int.reduceLT, Int.reduceLE, Int.reduceNeg, reduceCtorEq, Int.reduceEq, Int.reduceNe]
  refine AtFn.pure0 (rValid56 z cs rl h1 h2) ?_
  simp -dsimp -implicitDefEqProofs (maxSteps := 1000000) only [go_sem, ↓reduceIte, Nat.reduceAdd, Nat.reduceSub, Nat.reduceMul, Nat.reduceLT, Nat.reduceLeDiff, Nat.reduceEqDiff, Nat.reduceBEq, Nat.reduceBNe, Int.reduceToNat, Int.reduceLT, Int.reduceLE, Int.reduceNeg, reduceCtorEq, Int.reduceEq, Int.reduceNe]
  cases hv : validM z cs rl
  · simp -dsimp -implicitDefEqProofs (maxSteps := 1000000) only [go_sem, ↓reduceIte, Nat.reduceAdd, Nat.reduceSub, Nat.reduceMul, Nat.reduceLT, Nat.reduceLeDiff, Nat.reduceEqDiff, Nat.reduceBEq, Nat.reduceBNe, Int.reduceToNat, Int.reduceLT, Int.reduceLE, Int.reduceNeg, reduceCtorEq, Int.reduceEq, Int.reduceNe]
    simp only [findR, hv, Bool.false_eq_true, if_false]
    rfl
  · obtain ⟨hc, hr⟩ := validM_iff hv
    simp -dsimp -implicitDefEqProofs (maxSteps := 1000000) only [go_sem, ↓reduceIte, Nat.reduceAdd, Nat.reduceSub, Nat.reduceMul, Nat.reduceLT, Nat.reduceLeDiff, Nat.reduceEqDiff, Nat.reduceBEq, Nat.reduceBNe, Int.reduceToNat, Int.reduceLT, Int.reduceLE, Int.reduceNeg, reduceCtorEq, Int.reduceEq, Int.reduceNe, List.length_map]
    refine ⟨{i : Nat // i ≤ cs.length ∧ ∀ j, j < i → (cs.getD j zR).f ≠ a}, fun i => ⟨26, tl [(1, I a), (4, .ptr 0 0 0), (13, Rus cs), (14, I cs.length), (15, I i.1)], [(0, ⟨4, [[I 0, I 0, I 0, I 0]]⟩)], 1, .nil⟩, fun i => cs.length - i.1,
      ⟨⟨0, by omega, by intro j h; omega⟩, Le.tl (Ls := []) (y := none) [(0, 1)] ?_ ?_ (by simp) (by simp [sg]) trivial⟩, fun i => ?_⟩
    · simp -dsimp -implicitDefEqProofs (maxSteps := 1000000) only [go_sem, ↓reduceIte, Nat.reduceAdd, Nat.reduceSub, Nat.reduceMul, Nat.reduceLT, Nat.reduceLeDiff, Nat.reduceEqDiff, Nat.reduceBEq, Nat.reduceBNe, Int.reduceToNat, Int.reduceLT, Int.reduceLE, Int.reduceNeg, reduceCtorEq, Int.reduceEq, Int.reduceNe]
    · simp -dsimp -implicitDefEqProofs (maxSteps := 1000000) only [go_sem, ↓reduceIte, Nat.reduceAdd, Nat.reduceSub, Nat.reduceMul, Nat.reduceLT, Nat.reduceLeDiff, Nat.reduceEqDiff, Nat.reduceBEq, Nat.reduceBNe, Int.reduceToNat, Int.reduceLT, Int.reduceLE, Int.reduceNeg, reduceCtorEq, Int.reduceEq, Int.reduceNe]
      exact renL_F (by simp -dsimp -implicitDefEqProofs (maxSteps := 1000000) only [go_sem, ↓reduceIte, Nat.reduceAdd, Nat.reduceSub, Nat.reduceMul, Nat.reduceLT, Nat.reduceLeDiff, Nat.reduceEqDiff, Nat.reduceBEq, Nat.reduceBNe, Int.reduceToNat, Int.reduceLT, Int.reduceLE, Int.reduceNeg, reduceCtorEq, Int.reduceEq, Int.reduceNe])
    · obtain ⟨i, hi, hall⟩ := i
      simp -dsimp -implicitDefEqProofs (maxSteps := 1000000) only [go_sem, ↓reduceIte, Nat.reduceAdd, Nat.reduceSub, Nat.reduceMul, Nat.reduceLT, Nat.reduceLeDiff, Nat.reduceEqDiff, Nat.reduceBEq, Nat.reduceBNe, Int.reduceToNat, Int.reduceLT, Int.reduceLE, Int.reduceNeg, reduceCtorEq, Int.reduceEq, Int.reduceNe, List.length_map]
      refine ⟨fun h => ?_, fun h => ?_⟩
      · have hlt : i < cs.length := by omega
        simp -dsimp -implicitDefEqProofs (maxSteps := 1000000) only [go_sem, ↓reduceIte, Nat.reduceAdd, Nat.reduceSub, Nat.reduceMul, Nat.reduceLT, Nat.reduceLeDiff, Nat.reduceEqDiff, Nat.reduceBEq, Nat.reduceBNe, Int.reduceToNat, Int.reduceLT, Int.reduceLE, Int.reduceNeg, reduceCtorEq, Int.reduceEq, Int.reduceNe, List.getElem?_map, Int.toNat_natCast, Int.natCast_nonneg, getR hlt]
        refine ⟨fun h2 => ?_, fun h2 => ?_⟩
        · have hf : findC cs a = some (cs.getD i zR) := by
            unfold findC
            rw [List.find?_eq_some_iff_getElem]
            have e : cs[i] = cs.getD i zR := by simp [List.getD, hlt]
            exact ⟨by simpa using h2, i, hlt, e, fun j hj => by have := hall j hj; simpa [List.getD, show j < cs.length by omega] using this⟩
          simp only [findR, hv, hf, if_true]
        · refine ⟨⟨i + 1, by omega, fun j hj => ?_⟩, by show cs.length - (i + 1) < cs.length - i; omega, Le.tl (Ls := []) (y := none) [] ?_ ?_ (by simp) (by simp [sg]) trivial⟩
          · by_cases hji : j = i
            · subst hji; exact h2
            · exact hall j (by omega)
          · simp -dsimp -implicitDefEqProofs (maxSteps := 1000000) only [go_sem, ↓reduceIte, Nat.reduceAdd, Nat.reduceSub, Nat.reduceMul, Nat.reduceLT, Nat.reduceLeDiff, Nat.reduceEqDiff, Nat.reduceBEq, Nat.reduceBNe, Int.reduceToNat, Int.reduceLT, Int.reduceLE, Int.reduceNeg, reduceCtorEq, Int.reduceEq, Int.reduceNe]
            rw [wr_in (by omega) (by omega)]
            rfl
          · simp -dsimp -implicitDefEqProofs (maxSteps := 1000000) only [go_sem, ↓reduceIte, Nat.reduceAdd, Nat.reduceSub, Nat.reduceMul, Nat.reduceLT, Nat.reduceLeDiff, Nat.reduceEqDiff, Nat.reduceBEq, Nat.reduceBNe, Int.reduceToNat, Int.reduceLT, Int.reduceLE, Int.reduceNeg, reduceCtorEq, Int.reduceEq, Int.reduceNe]
            exact renL_F (by simp -dsimp -implicitDefEqProofs (maxSteps := 1000000) only [go_sem, ↓reduceIte, Nat.reduceAdd, Nat.reduceSub, Nat.reduceMul, Nat.reduceLT, Nat.reduceLeDiff, Nat.reduceEqDiff, Nat.reduceBEq, Nat.reduceBNe, Int.reduceToNat, Int.reduceLT, Int.reduceLE, Int.reduceNeg, reduceCtorEq, Int.reduceEq, Int.reduceNe])
      · have hi' : i = cs.length := by omega
        subst hi'
        have hf : findC cs a = none := by
          unfold findC
          rw [List.find?_eq_none]
          intro r hr
          obtain ⟨j, hj, rfl⟩ := List.getElem_of_mem hr
          have := hall j hj
          simpa [List.getD, hj] using this
        simp only [findR, hv, hf, if_true]
        rfl
def widthL (cs : List Ru) : List (Int × Int) → Int → Int × Int
  | [], n => (n, 0)
  | s :: r, n => match findC cs s.1 with | some c => widthL cs r (wr (n + wr (c.n + s.2))) | none => (0, 4)
def widthF (z : Int) (cs rl : List Ru) (sets : List (Int × Int)) : Int × Int := if validM z cs rl && okSets sets then widthL cs sets 0 else (0, 2)
theorem width29 (z : Int) (cs rl : List Ru) (sets : List (Int × Int)) (h1 : cs.length < 2 ^ 62) (h2 : rl.length < 2 ^ 62) (h3 : sets.length < 2 ^ 62) : PFun Try.prog 29 [MeA z cs rl, Sets sets] (.t [I (widthF z cs rl sets).1, I (widthF z cs rl sets).2]) := by
  refine PFun.intro 400 mixed Try.func29 (by kernel_rfl) rfl (by first | exact .v _ | (simp [Cl_v, Cl_t, Cl_g, Cl_fn, Cl_rp, Cl_ro]; done) | (simp [Cl_v, Cl_t, Cl_g, Cl_fn, Cl_rp, Cl_ro, or_imp, forall_and]; done) | (split <;> simp [Cl_v, Cl_t, Cl_g, Cl_fn, Cl_rp, Cl_ro])) (Nat.le_of_ble_eq_true rfl) ?_; rw [Try.ntmps29, Try.results29]
  simp -dsimp -implicitDefEqProofs (maxSteps := 1000000) only [go_sem, ↓reduceIte, Nat.reduceAdd, Nat.reduceSub, Nat.reduceMul, Nat.reduceLT, Nat.reduceLeDiff, Nat.reduceEqDiff, Nat.reduceBEq, Nat.reduceBNe, Int.reduceToNat, Int.reduceLT, Int.reduceLE, Int.reduceNeg, reduceCtorEq, Int.reduceEq, Int.reduceNe]
  refine AtFn.pure0 (valid53 z cs rl h1 h2) ?_
  simp -dsimp -implicitDefEqProofs (maxSteps := 1000000) only [go_sem, ↓reduceIte, Nat.reduceAdd, Nat.reduceSub, Nat.reduceMul, Nat.reduceLT, Nat.reduceLeDiff, Nat.reduceEqDiff, Nat.reduceBEq, Nat.reduceBNe, Int.reduceToNat, Int.reduceLT, Int.reduceLE, Int.reduceNeg, reduceCtorEq, Int.reduceEq, Int.reduceNe]
  cases hv : validM z cs rl
  · simp -dsimp -implicitDefEqProofs (maxSteps := 1000000) only [go_sem, ↓reduceIte, Nat.reduceAdd, Nat.reduceSub, Nat.reduceMul, Nat.reduceLT, Nat.reduceLeDiff, Nat.reduceEqDiff, Nat.reduceBEq, Nat.reduceBNe, Int.reduceToNat, Int.reduceLT, Int.reduceLE, Int.reduceNeg, reduceCtorEq, Int.reduceEq, Int.reduceNe]
    simp only [widthF, hv, Bool.false_and, Bool.false_eq_true, if_false]
  · simp -dsimp -implicitDefEqProofs (maxSteps := 1000000) only [go_sem, ↓reduceIte, Nat.reduceAdd, Nat.reduceSub, Nat.reduceMul, Nat.reduceLT, Nat.reduceLeDiff, Nat.reduceEqDiff, Nat.reduceBEq, Nat.reduceBNe, Int.reduceToNat, Int.reduceLT, Int.reduceLE, Int.reduceNeg, reduceCtorEq, Int.reduceEq, Int.reduceNe]
    refine AtFn.pure0 (areSets sets h3) ?_
    simp -dsimp -implicitDefEqProofs (maxSteps := 1000000) only [go_sem, ↓reduceIte, Nat.reduceAdd, Nat.reduceSub, Nat.reduceMul, Nat.reduceLT, Nat.reduceLeDiff, Nat.reduceEqDiff, Nat.reduceBEq, Nat.reduceBNe, Int.reduceToNat, Int.reduceLT, Int.reduceLE, Int.reduceNeg, reduceCtorEq, Int.reduceEq, Int.reduceNe]
    cases ho : okSets sets
    · simp -dsimp -implicitDefEqProofs (maxSteps := 1000000) only [go_sem, ↓reduceIte, Nat.reduceAdd, Nat.reduceSub, Nat.reduceMul, Nat.reduceLT, Nat.reduceLeDiff, Nat.reduceEqDiff, Nat.reduceBEq, Nat.reduceBNe, Int.reduceToNat, Int.reduceLT, Int.reduceLE, Int.reduceNeg, reduceCtorEq, Int.reduceEq, Int.reduceNe]
      simp only [widthF, ho, Bool.and_false, Bool.false_eq_true, if_false]
    · simp -dsimp -implicitDefEqProofs (maxSteps := 1000000) only [go_sem, ↓reduceIte, Nat.reduceAdd, Nat.reduceSub, Nat.reduceMul, Nat.reduceLT, Nat.reduceLeDiff, Nat.reduceEqDiff, Nat.reduceBEq, Nat.reduceBNe, Int.reduceToNat, Int.reduceLT, Int.reduceLE, Int.reduceNeg, reduceCtorEq, Int.reduceEq, Int.reduceNe, List.length_map]
      have hw : widthF z cs rl sets = widthL cs sets 0 := by simp only [widthF, hv, ho, Bool.and_self, if_true]
      rw [hw]
      obtain ⟨res, hres⟩ : ∃ res, res = widthL cs sets 0 := ⟨_, rfl⟩
      rw [← hres]
      refine ⟨{p : Nat × Int // p.1 ≤ sets.length ∧ res = widthL cs (sets.drop p.1) p.2}, fun p => ⟨44, tl [(2, .ptr 0 0 0), (6, I p.1.2), (19, Sets sets), (20, I sets.length), (21, I p.1.1)], [(0, ⟨3, [[I z, Rus cs, Rus rl]]⟩)], 1, .nil⟩, fun p => sets.length - p.1.1,
        ⟨⟨(0, 0), by simp, by simpa using hres⟩, Le.tl (Ls := []) (y := none) [] ?_ ?_ (by simp) (by simp [sg]) trivial⟩, fun p => ?_⟩
      · simp -dsimp -implicitDefEqProofs (maxSteps := 1000000) only [go_sem, ↓reduceIte, Nat.reduceAdd, Nat.reduceSub, Nat.reduceMul, Nat.reduceLT, Nat.reduceLeDiff, Nat.reduceEqDiff, Nat.reduceBEq, Nat.reduceBNe, Int.reduceToNat, Int.reduceLT, Int.reduceLE, Int.reduceNeg, reduceCtorEq, Int.reduceEq, Int.reduceNe]
      · simp -dsimp -implicitDefEqProofs (maxSteps := 1000000) only [go_sem, ↓reduceIte, Nat.reduceAdd, Nat.reduceSub, Nat.reduceMul, Nat.reduceLT, Nat.reduceLeDiff, Nat.reduceEqDiff, Nat.reduceBEq, Nat.reduceBNe, Int.reduceToNat, Int.reduceLT, Int.reduceLE, Int.reduceNeg, reduceCtorEq, Int.reduceEq, Int.reduceNe]
        exact renL_F (by simp -dsimp -implicitDefEqProofs (maxSteps := 1000000) only [go_sem, ↓reduceIte, Nat.reduceAdd, Nat.reduceSub, Nat.reduceMul, Nat.reduceLT, Nat.reduceLeDiff, Nat.reduceEqDiff, Nat.reduceBEq, Nat.reduceBNe, Int.reduceToNat, Int.reduceLT, Int.reduceLE, Int.reduceNeg, reduceCtorEq, Int.reduceEq, Int.reduceNe])
      · obtain ⟨⟨i, n⟩, hi, hall⟩ := p
        simp only at hi hall
        simp -dsimp -implicitDefEqProofs (maxSteps := 1000000) only [go_sem, ↓reduceIte, Nat.reduceAdd, Nat.reduceSub, Nat.reduceMul, Nat.reduceLT, Nat.reduceLeDiff, Nat.reduceEqDiff, Nat.reduceBEq, Nat.reduceBNe, Int.reduceToNat, Int.reduceLT, Int.reduceLE, Int.reduceNeg, reduceCtorEq, Int.reduceEq, Int.reduceNe, List.length_map]
        refine ⟨fun h => ?_, fun h => ?_⟩
        · have hlt : i < sets.length := by omega
          have hdr : sets.drop i = sets.getD i (0, 0) :: sets.drop (i + 1) := by
            have e : sets.getD i (0, 0) = sets[i] := by simp [List.getD, hlt]
            rw [e]
            exact List.drop_eq_getElem_cons hlt
          rw [hdr] at hall
          simp only [widthL] at hall
          simp -dsimp -implicitDefEqProofs (maxSteps := 1000000) only [go_sem, ↓reduceIte, Nat.reduceAdd, Nat.reduceSub, Nat.reduceMul, Nat.reduceLT, Nat.reduceLeDiff, Nat.reduceEqDiff, Nat.reduceBEq, Nat.reduceBNe, Int.reduceToNat, Int.reduceLT, Int.reduceLE, Int.reduceNeg, reduceCtorEq, Int.reduceEq, Int.reduceNe, List.getElem?_map, Int.toNat_natCast, Int.natCast_nonneg, getS hlt]
          have ff := find55 z cs rl (sets.getD i (0, 0)).1 h1 h2
          simp only [findR, hv, if_true] at ff
          cases hf : findC cs (sets.getD i (0, 0)).1 with
          | none =>
            rw [hf] at ff hall
            simp only at hall
            refine AtFn.pure0 ff ?_
            simp -dsimp -implicitDefEqProofs (maxSteps := 1000000) only [go_sem, ↓reduceIte, Nat.reduceAdd, Nat.reduceSub, Nat.reduceMul, Nat.reduceLT, Nat.reduceLeDiff, Nat.reduceEqDiff, Nat.reduceBEq, Nat.reduceBNe, Int.reduceToNat, Int.reduceLT, Int.reduceLE, Int.reduceNeg, reduceCtorEq, Int.reduceEq, Int.reduceNe]
            rw [hall]
          | some c =>
            rw [hf] at ff hall
            simp only at hall
            refine AtFn.pure0 ff ?_
            simp -dsimp -implicitDefEqProofs (maxSteps := 1000000) only [go_sem, ↓reduceIte, Nat.reduceAdd, Nat.reduceSub, Nat.reduceMul, Nat.reduceLT, Nat.reduceLeDiff, Nat.reduceEqDiff, Nat.reduceBEq, Nat.reduceBNe, Int.reduceToNat, Int.reduceLT, Int.reduceLE, Int.reduceNeg, reduceCtorEq, Int.reduceEq, Int.reduceNe]
            refine ⟨⟨(i + 1, wr (n + wr (c.n + (sets.getD i (0, 0)).2))), by show i + 1 ≤ sets.length; omega, hall⟩, by show sets.length - (i + 1) < sets.length - i; omega, Le.tl (Ls := []) (y := none) [] ?_ ?_ (by simp) (by simp [sg]) trivial⟩
            · have e1 : wr ((i : Int) + 1) = ((i + 1 : Nat) : Int) := by rw [wr_in] <;> omega
              simp -dsimp -implicitDefEqProofs (maxSteps := 1000000) only [go_sem, ↓reduceIte, Nat.reduceAdd, Nat.reduceSub, Nat.reduceMul, Nat.reduceLT, Nat.reduceLeDiff, Nat.reduceEqDiff, Nat.reduceBEq, Nat.reduceBNe, Int.reduceToNat, Int.reduceLT, Int.reduceLE, Int.reduceNeg, reduceCtorEq, Int.reduceEq, Int.reduceNe, e1]
            · simp -dsimp -implicitDefEqProofs (maxSteps := 1000000) only [go_sem, ↓reduceIte, Nat.reduceAdd, Nat.reduceSub, Nat.reduceMul, Nat.reduceLT, Nat.reduceLeDiff, Nat.reduceEqDiff, Nat.reduceBEq, Nat.reduceBNe, Int.reduceToNat, Int.reduceLT, Int.reduceLE, Int.reduceNeg, reduceCtorEq, Int.reduceEq, Int.reduceNe]
              exact renL_F (by simp -dsimp -implicitDefEqProofs (maxSteps := 1000000) only [go_sem, ↓reduceIte, Nat.reduceAdd, Nat.reduceSub, Nat.reduceMul, Nat.reduceLT, Nat.reduceLeDiff, Nat.reduceEqDiff, Nat.reduceBEq, Nat.reduceBNe, Int.reduceToNat, Int.reduceLT, Int.reduceLE, Int.reduceNeg, reduceCtorEq, Int.reduceEq, Int.reduceNe])
        · have hi' : i = sets.length := by omega
          subst hi'
          simp only [List.drop_length, widthL] at hall
          rw [hall]
theorem rWidth30 (z : Int) (cs rl : List Ru) (sets : List (Int × Int)) (h1 : cs.length < 2 ^ 62) (h2 : rl.length < 2 ^ 62) (h3 : sets.length < 2 ^ 62) : PFun Try.prog 30 [MeA z cs rl, Sets sets] (.t [I (widthF z cs rl sets).1, I (widthF z cs rl sets).2]) := by
  refine PFun.intro 400 mixed Try.func30 (by kernel_rfl) rfl (by first | exact .v _ | (simp [Cl_v, Cl_t, Cl_g, Cl_fn, Cl_rp, Cl_ro]; done) | (simp [Cl_v, Cl_t, Cl_g, Cl_fn, Cl_rp, Cl_ro, or_imp, forall_and]; done) | (split <;> simp [Cl_v, Cl_t, Cl_g, Cl_fn, Cl_rp, Cl_ro])) (Nat.le_of_ble_eq_true rfl) ?_; rw [Try.ntmps30, Try.results30]
  simp -dsimp -implicitDefEqProofs (maxSteps := 1000000) only [go_sem, ↓reduceIte, Nat.reduceAdd, Nat.reduceSub, Nat.reduceMul, Nat.reduceLT, Nat.reduceLeDiff, Nat.reduceEqDiff, Nat.reduceBEq, Nat.reduceBNe, Int.reduceToNat, Int.reduceLT, Int.reduceLE, Int.reduceNeg, reduceCtorEq, Int.reduceEq, Int.reduceNe]
  refine AtFn.pure0 (rValid56 z cs rl h1 h2) ?_
  simp -dsimp -implicitDefEqProofs (maxSteps := 1000000) only [go_sem, ↓reduceIte, Nat.reduceAdd, Nat.reduceSub, Nat.reduceMul, Nat.reduceLT, Nat.reduceLeDiff, Nat.reduceEqDiff, Nat.reduceBEq, Nat.reduceBNe, Int.reduceToNat, Int.reduceLT, Int.reduceLE, Int.reduceNeg, reduceCtorEq, Int.reduceEq, Int.reduceNe]
  cases hv : validM z cs rl
  · simp -dsimp -implicitDefEqProofs (maxSteps := 1000000) only [go_sem, ↓reduceIte, Nat.reduceAdd, Nat.reduceSub, Nat.reduceMul, Nat.reduceLT, Nat.reduceLeDiff, Nat.reduceEqDiff, Nat.reduceBEq, Nat.reduceBNe, Int.reduceToNat, Int.reduceLT, Int.reduceLE, Int.reduceNeg, reduceCtorEq, Int.reduceEq, Int.reduceNe]
    simp only [widthF, hv, Bool.false_and, Bool.false_eq_true, if_false]
  · simp -dsimp -implicitDefEqProofs (maxSteps := 1000000) only [go_sem, ↓reduceIte, Nat.reduceAdd, Nat.reduceSub, Nat.reduceMul, Nat.reduceLT, Nat.reduceLeDiff, Nat.reduceEqDiff, Nat.reduceBEq, Nat.reduceBNe, Int.reduceToNat, Int.reduceLT, Int.reduceLE, Int.reduceNeg, reduceCtorEq, Int.reduceEq, Int.reduceNe]
    refine AtFn.pure0 (rSets sets h3) ?_
    simp -dsimp -implicitDefEqProofs (maxSteps := 1000000) only [go_sem, ↓reduceIte, Nat.reduceAdd, Nat.reduceSub, Nat.reduceMul, Nat.reduceLT, Nat.reduceLeDiff, Nat.reduceEqDiff, Nat.reduceBEq, Nat.reduceBNe, Int.reduceToNat, Int.reduceLT, Int.reduceLE, Int.reduceNeg, reduceCtorEq, Int.reduceEq, Int.reduceNe]
    cases ho : okSets sets
    · simp -dsimp -implicitDefEqProofs (maxSteps := 1000000) only [go_sem, ↓reduceIte, Nat.reduceAdd, Nat.reduceSub, Nat.reduceMul, Nat.reduceLT, Nat.reduceLeDiff, Nat.reduceEqDiff, Nat.reduceBEq, Nat.reduceBNe, Int.reduceToNat, Int.reduceLT, Int.reduceLE, Int.reduceNeg, reduceCtorEq, Int.reduceEq, Int.reduceNe]
      simp only [widthF, ho, Bool.and_false, Bool.false_eq_true, if_false]
    · simp -dsimp -implicitDefEqProofs (maxSteps := 1000000) only [go_sem, ↓reduceIte, Nat.reduceAdd, Nat.reduceSub, Nat.reduceMul, Nat.reduceLT, Nat.reduceLeDiff, Nat.reduceEqDiff, Nat.reduceBEq, Nat.reduceBNe, Int.reduceToNat, Int.reduceLT, Int.reduceLE, Int.reduceNeg, reduceCtorEq, Int.reduceEq, Int.reduceNe, List.length_map]
      have hw : widthF z cs rl sets = widthL cs sets 0 := by simp only [widthF, hv, ho, Bool.and_self, if_true]
      rw [hw]
      obtain ⟨res, hres⟩ : ∃ res, res = widthL cs sets 0 := ⟨_, rfl⟩
      rw [← hres]
      refine ⟨{p : Nat × Int // p.1 ≤ sets.length ∧ res = widthL cs (sets.drop p.1) p.2}, fun p => ⟨44, tl [(2, .ptr 0 0 0), (6, I p.1.2), (19, Sets sets), (20, I sets.length), (21, I p.1.1)], [(0, ⟨3, [[I z, Rus cs, Rus rl]]⟩)], 1, .nil⟩, fun p => sets.length - p.1.1,
        ⟨⟨(0, 0), by simp, by simpa using hres⟩, Le.tl (Ls := []) (y := none) [] ?_ ?_ (by simp) (by simp [sg]) trivial⟩, fun p => ?_⟩
      · simp -dsimp -implicitDefEqProofs (maxSteps := 1000000) only [go_sem, ↓reduceIte, Nat.reduceAdd, Nat.reduceSub, Nat.reduceMul, Nat.reduceLT, Nat.reduceLeDiff, Nat.reduceEqDiff, Nat.reduceBEq, Nat.reduceBNe, Int.reduceToNat, Int.reduceLT, Int.reduceLE, Int.reduceNeg, reduceCtorEq, Int.reduceEq, Int.reduceNe]
      · simp -dsimp -implicitDefEqProofs (maxSteps := 1000000) only [go_sem, ↓reduceIte, Nat.reduceAdd, Nat.reduceSub, Nat.reduceMul, Nat.reduceLT, Nat.reduceLeDiff, Nat.reduceEqDiff, Nat.reduceBEq, Nat.reduceBNe, Int.reduceToNat, Int.reduceLT, Int.reduceLE, Int.reduceNeg, reduceCtorEq, Int.reduceEq, Int.reduceNe]
        exact renL_F (by simp -dsimp -implicitDefEqProofs (maxSteps := 1000000) only [go_sem, ↓reduceIte, Nat.reduceAdd, Nat.reduceSub, Nat.reduceMul, Nat.reduceLT, Nat.reduceLeDiff, Nat.reduceEqDiff, Nat.reduceBEq, Nat.reduceBNe, Int.reduceToNat, Int.reduceLT, Int.reduceLE, Int.reduceNeg, reduceCtorEq, Int.reduceEq, Int.reduceNe])
      · obtain ⟨⟨i, n⟩, hi, hall⟩ := p
        simp only at hi hall
        simp -dsimp -implicitDefEqProofs (maxSteps := 1000000) only [go_sem, ↓reduceIte, Nat.reduceAdd, Nat.reduceSub, Nat.reduceMul, Nat.reduceLT, Nat.reduceLeDiff, Nat.reduceEqDiff, Nat.reduceBEq, Nat.reduceBNe, Int.reduceToNat, Int.reduceLT, Int.reduceLE, Int.reduceNeg, reduceCtorEq, Int.reduceEq, Int.reduceNe, List.length_map]
        refine ⟨fun h => ?_, fun h => ?_⟩
        · have hlt : i < sets.length := by omega
          have hdr : sets.drop i = sets.getD i (0, 0) :: sets.drop (i + 1) := by
            have e : sets.getD i (0, 0) = sets[i] := by simp [List.getD, hlt]
            rw [e]
            exact List.drop_eq_getElem_cons hlt
          rw [hdr] at hall
          simp only [widthL] at hall
          simp -dsimp -implicitDefEqProofs (maxSteps := 1000000) only [go_sem, ↓reduceIte, Nat.reduceAdd, Nat.reduceSub, Nat.reduceMul, Nat.reduceLT, Nat.reduceLeDiff, Nat.reduceEqDiff, Nat.reduceBEq, Nat.reduceBNe, Int.reduceToNat, Int.reduceLT, Int.reduceLE, Int.reduceNeg, reduceCtorEq, Int.reduceEq, Int.reduceNe, List.getElem?_map, Int.toNat_natCast, Int.natCast_nonneg, getS hlt]
          have ff := rFind58 z cs rl (sets.getD i (0, 0)).1 h1 h2
          simp only [findR, hv, if_true] at ff
          cases hf : findC cs (sets.getD i (0, 0)).1 with
          | none =>
            rw [hf] at ff hall
            simp only at hall
            refine AtFn.pure0 ff ?_
            simp -dsimp -implicitDefEqProofs (maxSteps := 1000000) only [go_sem, ↓reduceIte, Nat.reduceAdd, Nat.reduceSub, Nat.reduceMul, Nat.reduceLT, Nat.reduceLeDiff, Nat.reduceEqDiff, Nat.reduceBEq, Nat.reduceBNe, Int.reduceToNat, Int.reduceLT, Int.reduceLE, Int.reduceNeg, reduceCtorEq, Int.reduceEq, Int.reduceNe]
            rw [hall]
          | some c =>
            rw [hf] at ff hall
            simp only at hall
            refine AtFn.pure0 ff ?_
            simp -dsimp -implicitDefEqProofs (maxSteps := 1000000) only [go_sem, ↓reduceIte, Nat.reduceAdd, Nat.reduceSub, Nat.reduceMul, Nat.reduceLT, Nat.reduceLeDiff, Nat.reduceEqDiff, Nat.reduceBEq, Nat.reduceBNe, Int.reduceToNat, Int.reduceLT, Int.reduceLE, Int.reduceNeg, reduceCtorEq, Int.reduceEq, Int.reduceNe]
            refine ⟨⟨(i + 1, wr (n + wr (c.n + (sets.getD i (0, 0)).2))), by show i + 1 ≤ sets.length; omega, hall⟩, by show sets.length - (i + 1) < sets.length - i; omega, Le.tl (Ls := []) (y := none) [] ?_ ?_ (by simp) (by simp [sg]) trivial⟩
            · have e1 : wr ((i : Int) + 1) = ((i + 1 : Nat) : Int) := by rw [wr_in] <;> omega
              simp -dsimp -implicitDefEqProofs (maxSteps := 1000000) only [go_sem, ↓reduceIte, Nat.reduceAdd, Nat.reduceSub, Nat.reduceMul, Nat.reduceLT, Nat.reduceLeDiff, Nat.reduceEqDiff, Nat.reduceBEq, Nat.reduceBNe, Int.reduceToNat, Int.reduceLT, Int.reduceLE, Int.reduceNeg, reduceCtorEq, Int.reduceEq, Int.reduceNe, e1]
            · simp -dsimp -implicitDefEqProofs (maxSteps := 1000000) only [go_sem, ↓reduceIte, Nat.reduceAdd, Nat.reduceSub, Nat.reduceMul, Nat.reduceLT, Nat.reduceLeDiff, Nat.reduceEqDiff, Nat.reduceBEq, Nat.reduceBNe, Int.reduceToNat, Int.reduceLT, Int.reduceLE, Int.reduceNeg, reduceCtorEq, Int.reduceEq, Int.reduceNe]
              exact renL_F (by simp -dsimp -implicitDefEqProofs (maxSteps := 1000000) only [go_sem, ↓reduceIte, Nat.reduceAdd, Nat.reduceSub, Nat.reduceMul, Nat.reduceLT, Nat.reduceLeDiff, Nat.reduceEqDiff, Nat.reduceBEq, Nat.reduceBNe, Int.reduceToNat, Int.reduceLT, Int.reduceLE, Int.reduceNeg, reduceCtorEq, Int.reduceEq, Int.reduceNe])
        · have hi' : i = sets.length := by omega
          subst hi'
          simp only [List.drop_length, widthL] at hall
          rw [hall]
end

section
set_option maxRecDepth 20000
attribute [local go_sem] clIntsL clRusL clSets clRows clTbl clSetsT'
/-- A row is valid by itself. -/
def okRow (r : Ro4) : Bool := inCode r.f && inCode r.n && inCode r.la && okSets r.ss && r.ss.all (fun s => inCode s.1)
def total (rows : List Ro4) : Nat := (rows.map fun r => r.ss.length).sum
def validT (rows : List Ro4) : Bool := rows.all okRow && decide (total rows ≤ 20000) && rise (rows.map toRu)
theorem total_take (rows : List Ro4) (i : Nat) (hi : i < rows.length) : total (rows.take (i + 1)) = total (rows.take i) + (rows.getD i zT).ss.length := by
  rw [List.take_add_one, getT hi]
  simp only [total, List.map_append, List.sum_append, Option.toList_some, List.map_cons, List.map_nil, List.sum_cons, List.sum_nil, Nat.add_zero]
theorem total_le (rows : List Ro4) (i : Nat) : total (rows.take i) ≤ total rows := by
  have : rows.map (fun r => r.ss.length) = (rows.take i).map (fun r => r.ss.length) ++ (rows.drop i).map (fun r => r.ss.length) := by rw [← List.map_append, List.take_append_drop]
  unfold total
  rw [this, List.sum_append]
  omega
theorem notT_row {rows : List Ro4} {i : Nat} (hi : i < rows.length) (h : okRow (rows.getD i zT) = false) : validT rows = false := by
  have : rows.all okRow = false := by
    rw [List.all_eq_false]
    exact ⟨_, List.mem_of_getElem? (getT hi), by simp only [h]; simp⟩
  simp [validT, this]
theorem notT_rise {rows : List Ro4} {i : Nat} (hi : i < rows.length) (h1 : 1 ≤ i) (h : 0 ≤ cmpR (rows.getD (i - 1) zT) (rows.getD i zT)) : validT rows = false := by
  have : rise (rows.map toRu) = false := by
    simp only [rise, decide_eq_false_iff_not]
    intro hh
    have := hh i (by rw [List.length_map]; exact hi) h1
    rw [getTR hi, getTR (by omega)] at this
    unfold cmpR at h
    omega
  simp [validT, this]
theorem areSetsA (l : List (Int × Int)) : PFun Try.prog 54 [Sets l] (Bo (okSets l)) := by
  by_cases h : l.length < 2 ^ 62
  · exact areSets l h
  have e : okSets l = false := by
    have : decide (l.length ≤ 2000) = false := by rw [decide_eq_false_iff_not]; omega
    simp [okSets, this]
  have e2 : ¬ (l.length : Int) ≤ 2000 := by omega
  rw [e]
  refine PFun.intro 400 mixed Try.func54 (by kernel_rfl) rfl (by first | exact .v _ | (simp [Cl_v, Cl_t, Cl_g, Cl_fn, Cl_rp, Cl_ro]; done) | (simp [Cl_v, Cl_t, Cl_g, Cl_fn, Cl_rp, Cl_ro, or_imp, forall_and]; done) | (split <;> simp [Cl_v, Cl_t, Cl_g, Cl_fn, Cl_rp, Cl_ro])) (Nat.le_of_ble_eq_true rfl) ?_; rw [Try.ntmps54, Try.results54]
  simp -dsimp -implicitDefEqProofs (maxSteps := 1000000) only [go_sem, ↓reduceIte, Nat.reduceAdd, Nat.reduceSub, Nat.reduceMul, Nat.reduceLT, Nat.reduceLeDiff, Nat.reduceEqDiff, Nat.reduceBEq, Nat.reduceBNe, Int.reduceToNat, Int.reduceLT, Int.reduceLE, Int.reduceNeg, reduceCtorEq, Int.reduceEq, Int.reduceNe, List.length_map, e2]
theorem table48 (rows : List Ro4) (hl : rows.length < 2 ^ 62) : PFun Try.prog 48 [TA rows] (Bo (validT rows)) := by
  refine PFun.intro 400 mixed Try.func48 (by kernel_rfl) rfl (by first | exact .v _ | (simp [Cl_v, Cl_t, Cl_g, Cl_fn, Cl_rp, Cl_ro]; done) | (simp [Cl_v, Cl_t, Cl_g, Cl_fn, Cl_rp, Cl_ro, or_imp, forall_and]; done) | (split <;> simp [Cl_v, Cl_t, Cl_g, Cl_fn, Cl_rp, Cl_ro])) (Nat.le_of_ble_eq_true rfl) ?_; rw [Try.ntmps48, Try.results48]
  simp -dsimp -implicitDefEqProofs (maxSteps := 1000000) only [go_sem, ↓reduceIte, Nat.reduceAdd, Nat.reduceSub, Nat.reduceMul, Nat.reduceLT, Nat.reduceLeDiff, Nat.reduceEqDiff, Nat.reduceBEq, Nat.reduceBNe, Int.reduceToNat, Int.reduceLT, Int.reduceLE, Int.reduceNeg, reduceCtorEq, Int.reduceEq, Int.reduceNe, List.length_map]
  refine ⟨{i : Nat // i ≤ rows.length ∧ total (rows.take i) ≤ 20000 ∧ ∀ j, j < i → okRow (rows.getD j zT) = true ∧ (1 ≤ j → cmpR (rows.getD (j - 1) zT) (rows.getD j zT) < 0)}, fun i => ⟨66, tl [(1, .ptr 0 0 0), (3, I (total (rows.take i.1))), (7, Tbl rows), (8, I rows.length), (9, I i.1)], [(0, ⟨1, [[Tbl rows]]⟩)], 1, .nil⟩, fun i => rows.length - i.1,
    ⟨⟨0, by omega, by simp [total], by intro j h; omega⟩, Le.tl (Ls := []) (y := none) [] ?_ ?_ (by simp) (by simp [sg]) trivial⟩, fun i => ?_⟩
  · simp -dsimp -implicitDefEqProofs (maxSteps := 1000000) only [go_sem, ↓reduceIte, Nat.reduceAdd, Nat.reduceSub, Nat.reduceMul, Nat.reduceLT, Nat.reduceLeDiff, Nat.reduceEqDiff, Nat.reduceBEq, Nat.reduceBNe, Int.reduceToNat, Int.reduceLT, Int.reduceLE, Int.reduceNeg, reduceCtorEq, Int.reduceEq, Int.reduceNe]
    try rfl
  · simp -dsimp -implicitDefEqProofs (maxSteps := 1000000) only [go_sem, ↓reduceIte, Nat.reduceAdd, Nat.reduceSub, Nat.reduceMul, Nat.reduceLT, Nat.reduceLeDiff, Nat.reduceEqDiff, Nat.reduceBEq, Nat.reduceBNe, Int.reduceToNat, Int.reduceLT, Int.reduceLE, Int.reduceNeg, reduceCtorEq, Int.reduceEq, Int.reduceNe]
    exact renL_F (by simp -dsimp -implicitDefEqProofs (maxSteps := 1000000) only [go_sem, ↓reduceIte, Nat.reduceAdd, Nat.reduceSub, Nat.reduceMul, Nat.reduceLT, Nat.reduceLeDiff, Nat.reduceEqDiff, Nat.reduceBEq, Nat.reduceBNe, Int.reduceToNat, Int.reduceLT, Int.reduceLE, Int.reduceNeg, reduceCtorEq, Int.reduceEq, Int.reduceNe])
  · obtain ⟨i, hi, htot, hall⟩ := i
    simp -dsimp -implicitDefEqProofs (maxSteps := 1000000) only [go_sem, ↓reduceIte, Nat.reduceAdd, Nat.reduceSub, Nat.reduceMul, Nat.reduceLT, Nat.reduceLeDiff, Nat.reduceEqDiff, Nat.reduceBEq, Nat.reduceBNe, Int.reduceToNat, Int.reduceLT, Int.reduceLE, Int.reduceNeg, reduceCtorEq, Int.reduceEq, Int.reduceNe, List.length_map]
    refine ⟨fun h => ?_, fun h => ?_⟩
    · have hlt : i < rows.length := by omega
      obtain ⟨r, hr⟩ : ∃ r, r = rows.getD i zT := ⟨_, rfl⟩
      have hg : rows[i]? = some r := hr ▸ getT hlt
      simp -dsimp -implicitDefEqProofs (maxSteps := 1000000) only [go_sem, ↓reduceIte, Nat.reduceAdd, Nat.reduceSub, Nat.reduceMul, Nat.reduceLT, Nat.reduceLeDiff, Nat.reduceEqDiff, Nat.reduceBEq, Nat.reduceBNe, Int.reduceToNat, Int.reduceLT, Int.reduceLE, Int.reduceNeg, reduceCtorEq, Int.reduceEq, Int.reduceNe, List.getElem?_map, Int.toNat_natCast, Int.natCast_nonneg, hg, List.length_map]
      refine AtCode.draw 46 [([], []), ([0], []), ([0, 1], []), ([0, 1, 2], []), ([0, 1, 2, 3], []), ([0, 1, 2, 3, 4], []), ([0, 1, 2, 3, 4, 5], []), ([0, 1, 2, 3, 4, 5, 6], []), ([0, 1, 2, 3, 4, 5, 6, 7], []), ([0, 1, 2, 3, 4, 5, 6, 7, 8], []), ([0, 1, 2, 3, 4, 5, 6, 7, 8, 9], []), ([0, 1, 2, 3, 4, 5, 6, 7, 8, 9, 10], []), ([0, 1, 2, 3, 4, 5, 6, 7, 8, 9, 10, 11], []), ([0, 1, 2, 3, 4, 5, 6, 7, 8, 9, 10, 11, 12], []), ([0, 1, 2, 3, 4, 5, 6, 7, 8, 9, 10, 11, 12, 13], []), ([0, 1, 2, 3, 4, 5, 6, 7, 8, 9, 10, 11, 12, 13, 14], []), ([0, 1, 2, 3, 4, 5, 6, 7, 8, 9, 10, 11, 12, 13, 14, 15], []), ([0, 1, 2, 3, 4, 5, 6, 7, 8, 9, 10, 11, 12, 13, 14, 15, 16], []), ([0, 1, 2, 3, 4, 5, 6, 7, 8, 9, 10, 11, 12, 13, 14, 15, 16, 17], []), ([0, 1, 2, 3, 4, 5, 6, 7, 8, 9, 10, 11, 12, 13, 14, 15, 16, 17, 18], []), ([0, 1, 2, 3, 4, 5, 6, 7, 8, 9, 10, 11, 12, 13, 14, 15, 16, 17, 18, 19], []), ([0, 1, 2, 3, 4, 5, 6, 7, 8, 9, 10, 11, 12, 13, 14, 15, 16, 17, 18, 19, 20], []), ([0, 1, 2, 3, 4, 5, 6, 7, 8, 9, 10, 11, 12, 13, 14, 15, 16, 17, 18, 19, 20, 21], []), ([0, 1, 2, 3, 4, 5, 6, 7, 8, 9, 10, 11, 12, 13, 14, 15, 16, 17, 18, 19, 20, 21, 22], []), ([0, 1, 2, 3, 4, 5, 6, 7, 8, 9, 10, 11, 12, 13, 14, 15, 16, 17, 18, 19, 20, 21, 22, 23], []), ([0, 1, 2, 3, 4, 5, 6, 7, 8, 9, 10, 11, 12, 13, 14, 15, 16, 17, 18, 19, 20, 21, 22, 23, 24], []), ([0, 1, 2, 3, 4, 5, 6, 7, 8, 9, 10, 11, 12, 13, 14, 15, 16, 17, 18, 19, 20, 21, 22, 23, 24, 25], []), ([0, 1, 2, 3, 4, 5, 6, 7, 8, 9, 10, 11, 12, 13, 14, 15, 16, 17, 18, 19, 20, 21, 22, 23, 24, 25, 26], []), ([0, 1, 2, 3, 4, 5, 6, 7, 8, 9, 10, 11, 12, 13, 14, 15, 16, 17, 18, 19, 20, 21, 22, 23, 24, 25, 26, 27], []), ([0, 1, 2, 3, 4, 5, 6, 7, 8, 9, 10, 11, 12, 13, 14, 15, 16, 17, 18, 19, 20, 21, 22, 23, 24, 25, 26, 27, 28], []), ([0, 1, 2, 3, 4, 5, 6, 7, 8, 9, 10, 11, 12, 13, 14, 15, 16, 17, 18, 19, 20, 21, 22, 23, 24, 25, 26, 27, 28, 29], []), ([0, 1, 2, 3, 4, 5, 6, 7, 8, 9, 10, 11, 12, 13, 14, 15, 16, 17, 18, 19, 20, 21, 22, 23, 24, 25, 26, 27, 28, 29, 30], []), ([0, 1, 2, 3, 4, 5, 6, 7, 8, 9, 10, 11, 12, 13, 14, 15, 16, 17, 18, 19, 20, 21, 22, 23, 24, 25, 26, 27, 28, 29, 30, 31], []), ([0, 1, 2, 3, 4, 5, 6, 7, 8, 9, 10, 11, 12, 13, 14, 15, 16, 17, 18, 19, 20, 21, 22, 23, 24, 25, 26, 27, 28, 29, 30, 31, 32], []), ([0, 1, 2, 3, 4, 5, 6, 7, 8, 9, 10, 11, 12, 13, 14, 15, 16, 17, 18, 19, 20, 21, 22, 23, 24, 25, 26, 27, 28, 29, 30, 31, 32, 33], []), ([0, 1, 2, 3, 4, 5, 6, 7, 8, 9, 10, 11, 12, 13, 14, 15, 16, 17, 18, 19, 20, 21, 22, 23, 24, 25, 26, 27, 28, 29, 30, 31, 32, 33, 34], []), ([0, 1, 2, 3, 4, 5, 6, 7, 8, 9, 10, 11, 12, 13, 14, 15, 16, 17, 18, 19, 20, 21, 22, 23, 24, 25, 26, 27, 28, 29, 30, 31, 32, 33, 34, 35], []), ([0, 1, 2, 3, 4, 5, 6, 7, 8, 9, 10, 11, 12, 13, 14, 15, 16, 17, 18, 19, 20, 21, 22, 23, 24, 25, 26, 27, 28, 29, 30, 31, 32, 33, 34], []), ([0, 1, 2, 3, 4, 5, 6, 7, 8, 9, 10, 11, 12, 13, 14, 15, 16, 17, 18, 19, 20, 21, 22, 23, 24, 25, 26, 27, 28, 29, 30, 31, 32, 33, 34, 37], []), ([0, 1, 2, 3, 4, 5, 6, 7, 8, 9, 10, 11, 12, 13, 14, 15, 16, 17, 18, 19, 20, 21, 22, 23, 24, 25, 26, 27, 28, 29, 30, 31, 32, 33, 34, 35, 36, 37, 38], []), ([0, 1, 2, 3, 4, 5, 6, 7, 8, 9, 10, 11, 12, 13, 14, 15, 16, 17, 18, 19, 20, 21, 22, 23, 24, 25, 26, 27, 28, 29, 30, 31, 32, 33, 34, 35, 36, 37, 38, 39], []), ([0, 1, 2, 3, 4, 5, 6, 7, 8, 9, 10, 11, 12, 13, 14, 15, 16, 17, 18, 19, 20, 21, 22, 23, 24, 25, 26, 27, 28, 29, 30, 31, 32, 33, 34], []), ([0, 1, 2, 3, 4, 5, 6, 7, 8, 9, 10, 11, 12, 13, 14, 15, 16, 17, 18, 19, 20, 21, 22, 23, 24, 25, 26, 27, 28, 29, 30, 31, 32, 33, 34, 35, 36, 37, 38, 39, 40, 41], []), ([0, 1, 2, 3, 4, 5, 6, 7, 8, 9, 10, 11, 12, 13, 14, 15, 16, 17, 18, 19, 20, 21, 22, 23, 24, 25, 26, 27, 28, 29, 30, 31, 32, 33, 34, 35, 36, 37, 38, 39, 40, 41, 42], []), ([0, 1, 2, 3, 4, 5, 6, 7, 8, 9, 10, 11, 12, 13, 14, 15, 16, 17, 18, 19, 20, 21, 22, 23, 24, 25, 26, 27, 28, 29, 30, 31, 32, 33, 34, 35, 36, 37, 38, 39, 40, 41, 42, 43], []), ([0, 1, 2, 3, 4, 5, 6, 7, 8, 9, 10, 11, 12, 13, 14, 15, 16, 17, 18, 19, 20, 21, 22, 23, 24, 25, 26, 27, 28, 29, 30, 31, 32, 33, 34, 35, 36, 37, 38, 39, 40, 41, 42, 43, 44], [])] (by kernel_rfl) ?_
      simp -dsimp -implicitDefEqProofs (maxSteps := 1000000) only [go_sem, ↓reduceIte, Nat.reduceAdd, Nat.reduceSub, Nat.reduceMul, Nat.reduceLT, Nat.reduceLeDiff, Nat.reduceEqDiff, Nat.reduceBEq, Nat.reduceBNe, Int.reduceToNat, Int.reduceLT, Int.reduceLE, Int.reduceNeg, reduceCtorEq, Int.reduceEq, Int.reduceNe]
      refine QFn.use _ (isCode33 _) (by simp -dsimp -implicitDefEqProofs (maxSteps := 1000000) only [go_sem, ↓reduceIte, Nat.reduceAdd, Nat.reduceSub, Nat.reduceMul, Nat.reduceLT, Nat.reduceLeDiff, Nat.reduceEqDiff, Nat.reduceBEq, Nat.reduceBNe, Int.reduceToNat, Int.reduceLT, Int.reduceLE, Int.reduceNeg, reduceCtorEq, Int.reduceEq, Int.reduceNe]) ?_
      simp -dsimp -implicitDefEqProofs (maxSteps := 1000000) only [go_sem, ↓reduceIte, Nat.reduceAdd, Nat.reduceSub, Nat.reduceMul, Nat.reduceLT, Nat.reduceLeDiff, Nat.reduceEqDiff, Nat.reduceBEq, Nat.reduceBNe, Int.reduceToNat, Int.reduceLT, Int.reduceLE, Int.reduceNeg, reduceCtorEq, Int.reduceEq, Int.reduceNe]
      have hbad : okRow r = false → Bo false = Bo (validT rows) := fun hb => by rw [notT_row hlt (hr ▸ hb)]
      cases c1 : inCode r.f
      · simp -dsimp -implicitDefEqProofs (maxSteps := 1000000) only [go_sem, ↓reduceIte, Nat.reduceAdd, Nat.reduceSub, Nat.reduceMul, Nat.reduceLT, Nat.reduceLeDiff, Nat.reduceEqDiff, Nat.reduceBEq, Nat.reduceBNe, Int.reduceToNat, Int.reduceLT, Int.reduceLE, Int.reduceNeg, reduceCtorEq, Int.reduceEq, Int.reduceNe]
        exact hbad (by simp only [okRow, c1, Bool.false_and])
      simp -dsimp -implicitDefEqProofs (maxSteps := 1000000) only [go_sem, ↓reduceIte, Nat.reduceAdd, Nat.reduceSub, Nat.reduceMul, Nat.reduceLT, Nat.reduceLeDiff, Nat.reduceEqDiff, Nat.reduceBEq, Nat.reduceBNe, Int.reduceToNat, Int.reduceLT, Int.reduceLE, Int.reduceNeg, reduceCtorEq, Int.reduceEq, Int.reduceNe]
      refine QFn.use _ (isCode33 _) (by simp -dsimp -implicitDefEqProofs (maxSteps := 1000000) only [go_sem, ↓reduceIte, Nat.reduceAdd, Nat.reduceSub, Nat.reduceMul, Nat.reduceLT, Nat.reduceLeDiff, Nat.reduceEqDiff, Nat.reduceBEq, Nat.reduceBNe, Int.reduceToNat, Int.reduceLT, Int.reduceLE, Int.reduceNeg, reduceCtorEq, Int.reduceEq, Int.reduceNe]) ?_
      simp -dsimp -implicitDefEqProofs (maxSteps := 1000000) only [go_sem, ↓reduceIte, Nat.reduceAdd, Nat.reduceSub, Nat.reduceMul, Nat.reduceLT, Nat.reduceLeDiff, Nat.reduceEqDiff, Nat.reduceBEq, Nat.reduceBNe, Int.reduceToNat, Int.reduceLT, Int.reduceLE, Int.reduceNeg, reduceCtorEq, Int.reduceEq, Int.reduceNe]
      cases c2 : inCode r.n
      · simp -dsimp -implicitDefEqProofs (maxSteps := 1000000) only [go_sem, ↓reduceIte, Nat.reduceAdd, Nat.reduceSub, Nat.reduceMul, Nat.reduceLT, Nat.reduceLeDiff, Nat.reduceEqDiff, Nat.reduceBEq, Nat.reduceBNe, Int.reduceToNat, Int.reduceLT, Int.reduceLE, Int.reduceNeg, reduceCtorEq, Int.reduceEq, Int.reduceNe]
        exact hbad (by simp only [okRow, c2, Bool.and_false, Bool.false_and])
      simp -dsimp -implicitDefEqProofs (maxSteps := 1000000) only [go_sem, ↓reduceIte, Nat.reduceAdd, Nat.reduceSub, Nat.reduceMul, Nat.reduceLT, Nat.reduceLeDiff, Nat.reduceEqDiff, Nat.reduceBEq, Nat.reduceBNe, Int.reduceToNat, Int.reduceLT, Int.reduceLE, Int.reduceNeg, reduceCtorEq, Int.reduceEq, Int.reduceNe]
      refine QFn.use _ (isCode33 _) (by simp -dsimp -implicitDefEqProofs (maxSteps := 1000000) only [go_sem, ↓reduceIte, Nat.reduceAdd, Nat.reduceSub, Nat.reduceMul, Nat.reduceLT, Nat.reduceLeDiff, Nat.reduceEqDiff, Nat.reduceBEq, Nat.reduceBNe, Int.reduceToNat, Int.reduceLT, Int.reduceLE, Int.reduceNeg, reduceCtorEq, Int.reduceEq, Int.reduceNe]) ?_
      simp -dsimp -implicitDefEqProofs (maxSteps := 1000000) only [go_sem, ↓reduceIte, Nat.reduceAdd, Nat.reduceSub, Nat.reduceMul, Nat.reduceLT, Nat.reduceLeDiff, Nat.reduceEqDiff, Nat.reduceBEq, Nat.reduceBNe, Int.reduceToNat, Int.reduceLT, Int.reduceLE, Int.reduceNeg, reduceCtorEq, Int.reduceEq, Int.reduceNe]
      cases c3 : inCode r.la
      · simp -dsimp -implicitDefEqProofs (maxSteps := 1000000) only [go_sem, ↓reduceIte, Nat.reduceAdd, Nat.reduceSub, Nat.reduceMul, Nat.reduceLT, Nat.reduceLeDiff, Nat.reduceEqDiff, Nat.reduceBEq, Nat.reduceBNe, Int.reduceToNat, Int.reduceLT, Int.reduceLE, Int.reduceNeg, reduceCtorEq, Int.reduceEq, Int.reduceNe]
        exact hbad (by simp only [okRow, c3, Bool.and_false, Bool.false_and])
      simp -dsimp -implicitDefEqProofs (maxSteps := 1000000) only [go_sem, ↓reduceIte, Nat.reduceAdd, Nat.reduceSub, Nat.reduceMul, Nat.reduceLT, Nat.reduceLeDiff, Nat.reduceEqDiff, Nat.reduceBEq, Nat.reduceBNe, Int.reduceToNat, Int.reduceLT, Int.reduceLE, Int.reduceNeg, reduceCtorEq, Int.reduceEq, Int.reduceNe]
      refine QFn.use _ (areSetsA r.ss) (by simp -dsimp -implicitDefEqProofs (maxSteps := 1000000) only [go_sem, ↓reduceIte, Nat.reduceAdd, Nat.reduceSub, Nat.reduceMul, Nat.reduceLT, Nat.reduceLeDiff, Nat.reduceEqDiff, Nat.reduceBEq, Nat.reduceBNe, Int.reduceToNat, Int.reduceLT, Int.reduceLE, Int.reduceNeg, reduceCtorEq, Int.reduceEq, Int.reduceNe]) ?_
      simp -dsimp -implicitDefEqProofs (maxSteps := 1000000) only [go_sem, ↓reduceIte, Nat.reduceAdd, Nat.reduceSub, Nat.reduceMul, Nat.reduceLT, Nat.reduceLeDiff, Nat.reduceEqDiff, Nat.reduceBEq, Nat.reduceBNe, Int.reduceToNat, Int.reduceLT, Int.reduceLE, Int.reduceNeg, reduceCtorEq, Int.reduceEq, Int.reduceNe]
      cases c4 : okSets r.ss
      · simp -dsimp -implicitDefEqProofs (maxSteps := 1000000) only [go_sem, ↓reduceIte, Nat.reduceAdd, Nat.reduceSub, Nat.reduceMul, Nat.reduceLT, Nat.reduceLeDiff, Nat.reduceEqDiff, Nat.reduceBEq, Nat.reduceBNe, Int.reduceToNat, Int.reduceLT, Int.reduceLE, Int.reduceNeg, reduceCtorEq, Int.reduceEq, Int.reduceNe]
        exact hbad (by simp only [okRow, c4, Bool.and_false, Bool.false_and])
      have hrs : r.ss.length ≤ 2000 := by
        simp only [okSets, Bool.and_eq_true, decide_eq_true_eq] at c4; exact c4.1
      have e0 : wr ((total (rows.take i) : Int) + (r.ss.length : Int)) = ((total (rows.take (i + 1)) : Nat) : Int) := by
        rw [total_take rows i hlt, ← hr, wr_in] <;> omega
      simp -dsimp -implicitDefEqProofs (maxSteps := 1000000) only [go_sem, ↓reduceIte, Nat.reduceAdd, Nat.reduceSub, Nat.reduceMul, Nat.reduceLT, Nat.reduceLeDiff, Nat.reduceEqDiff, Nat.reduceBEq, Nat.reduceBNe, Int.reduceToNat, Int.reduceLT, Int.reduceLE, Int.reduceNeg, reduceCtorEq, Int.reduceEq, Int.reduceNe]
      refine QFn.use _ (containsS 71 [] (by simp) (fun s => !inCode s.1) notCodeS r.ss (by omega)) (by simp [Cl_fn, clSetsT', clSets]) ?_
      simp -dsimp -implicitDefEqProofs (maxSteps := 1000000) only [go_sem, ↓reduceIte, Nat.reduceAdd, Nat.reduceSub, Nat.reduceMul, Nat.reduceLT, Nat.reduceLeDiff, Nat.reduceEqDiff, Nat.reduceBEq, Nat.reduceBNe, Int.reduceToNat, Int.reduceLT, Int.reduceLE, Int.reduceNeg, reduceCtorEq, Int.reduceEq, Int.reduceNe]
      have c5' : (!r.ss.any fun s => !inCode s.1) = r.ss.all (fun s => inCode s.1) := by rw [List.all_eq_not_any_not]
      cases c5 : (r.ss.any fun s => !inCode s.1)
      · rw [c5] at c5'
        simp -dsimp -implicitDefEqProofs (maxSteps := 1000000) only [go_sem, ↓reduceIte, Nat.reduceAdd, Nat.reduceSub, Nat.reduceMul, Nat.reduceLT, Nat.reduceLeDiff, Nat.reduceEqDiff, Nat.reduceBEq, Nat.reduceBNe, Int.reduceToNat, Int.reduceLT, Int.reduceLE, Int.reduceNeg, reduceCtorEq, Int.reduceEq, Int.reduceNe, e0]
        have hok : okRow r = true := by simp only [okRow, c1, c2, c3, c4, ← c5', Bool.not_false, Bool.and_self]
        refine ⟨fun h2 => ?_, fun h2 => ⟨fun h0 => ?_, fun h0 => ?_⟩⟩
        · have hv : validT rows = false := by
            have := total_le rows (i + 1)
            have : decide (total rows ≤ 20000) = false := by rw [decide_eq_false_iff_not]; omega
            simp [validT, this]
          rw [hv]
        · have e1 : wr ((i : Int) - 1) = ((i - 1 : Nat) : Int) := by rw [wr_in] <;> omega
          simp -dsimp -implicitDefEqProofs (maxSteps := 1000000) only [go_sem, ↓reduceIte, Nat.reduceAdd, Nat.reduceSub, Nat.reduceMul, Nat.reduceLT, Nat.reduceLeDiff, Nat.reduceEqDiff, Nat.reduceBEq, Nat.reduceBNe, Int.reduceToNat, Int.reduceLT, Int.reduceLE, Int.reduceNeg, reduceCtorEq, Int.reduceEq, Int.reduceNe, e1, List.getElem?_map, Int.toNat_natCast, Int.natCast_nonneg, getT (show i - 1 < rows.length by omega)]
          refine QFn.use _ (compare50 (rows.getD (i - 1) zT) r) (by simp -dsimp -implicitDefEqProofs (maxSteps := 1000000) only [go_sem, ↓reduceIte, Nat.reduceAdd, Nat.reduceSub, Nat.reduceMul, Nat.reduceLT, Nat.reduceLeDiff, Nat.reduceEqDiff, Nat.reduceBEq, Nat.reduceBNe, Int.reduceToNat, Int.reduceLT, Int.reduceLE, Int.reduceNeg, reduceCtorEq, Int.reduceEq, Int.reduceNe]) ?_
          simp -dsimp -implicitDefEqProofs (maxSteps := 1000000) only [go_sem, ↓reduceIte, Nat.reduceAdd, Nat.reduceSub, Nat.reduceMul, Nat.reduceLT, Nat.reduceLeDiff, Nat.reduceEqDiff, Nat.reduceBEq, Nat.reduceBNe, Int.reduceToNat, Int.reduceLT, Int.reduceLE, Int.reduceNeg, reduceCtorEq, Int.reduceEq, Int.reduceNe]
          refine ⟨fun h3 => ?_, fun h3 => ?_⟩
          · rw [notT_rise hlt (by omega) (hr ▸ h3)]
          · refine ⟨⟨i + 1, by omega, by omega, fun j hj => ?_⟩, by show rows.length - (i + 1) < rows.length - i; omega, Le.tl (Ls := []) (y := none) [] ?_ ?_ (by simp) (by simp [sg]) trivial⟩
            · by_cases hji : j = i
              · subst hji; exact ⟨hr ▸ hok, fun _ => by rw [← hr]; omega⟩
              · exact hall j (by omega)
            · simp -dsimp -implicitDefEqProofs (maxSteps := 1000000) only [go_sem, ↓reduceIte, Nat.reduceAdd, Nat.reduceSub, Nat.reduceMul, Nat.reduceLT, Nat.reduceLeDiff, Nat.reduceEqDiff, Nat.reduceBEq, Nat.reduceBNe, Int.reduceToNat, Int.reduceLT, Int.reduceLE, Int.reduceNeg, reduceCtorEq, Int.reduceEq, Int.reduceNe]
              rw [wr_in (by omega) (by omega)]
              rfl
            · simp -dsimp -implicitDefEqProofs (maxSteps := 1000000) only [go_sem, ↓reduceIte, Nat.reduceAdd, Nat.reduceSub, Nat.reduceMul, Nat.reduceLT, Nat.reduceLeDiff, Nat.reduceEqDiff, Nat.reduceBEq, Nat.reduceBNe, Int.reduceToNat, Int.reduceLT, Int.reduceLE, Int.reduceNeg, reduceCtorEq, Int.reduceEq, Int.reduceNe]
              exact renL_F (by simp -dsimp -implicitDefEqProofs (maxSteps := 1000000) only [go_sem, ↓reduceIte, Nat.reduceAdd, Nat.reduceSub, Nat.reduceMul, Nat.reduceLT, Nat.reduceLeDiff, Nat.reduceEqDiff, Nat.reduceBEq, Nat.reduceBNe, Int.reduceToNat, Int.reduceLT, Int.reduceLE, Int.reduceNeg, reduceCtorEq, Int.reduceEq, Int.reduceNe])
        · refine ⟨⟨i + 1, by omega, by omega, fun j hj => ?_⟩, by show rows.length - (i + 1) < rows.length - i; omega, Le.tl (Ls := []) (y := none) [] ?_ ?_ (by simp) (by simp [sg]) trivial⟩
          · by_cases hji : j = i
            · subst hji; exact ⟨hr ▸ hok, fun h1 => by omega⟩
            · exact hall j (by omega)
          · simp -dsimp -implicitDefEqProofs (maxSteps := 1000000) only [go_sem, ↓reduceIte, Nat.reduceAdd, Nat.reduceSub, Nat.reduceMul, Nat.reduceLT, Nat.reduceLeDiff, Nat.reduceEqDiff, Nat.reduceBEq, Nat.reduceBNe, Int.reduceToNat, Int.reduceLT, Int.reduceLE, Int.reduceNeg, reduceCtorEq, Int.reduceEq, Int.reduceNe]
            rw [wr_in (by omega) (by omega)]
            rfl
          · simp -dsimp -implicitDefEqProofs (maxSteps := 1000000) only [go_sem, ↓reduceIte, Nat.reduceAdd, Nat.reduceSub, Nat.reduceMul, Nat.reduceLT, Nat.reduceLeDiff, Nat.reduceEqDiff, Nat.reduceBEq, Nat.reduceBNe, Int.reduceToNat, Int.reduceLT, Int.reduceLE, Int.reduceNeg, reduceCtorEq, Int.reduceEq, Int.reduceNe]
            exact renL_F (by simp -dsimp -implicitDefEqProofs (maxSteps := 1000000) only [go_sem, ↓reduceIte, Nat.reduceAdd, Nat.reduceSub, Nat.reduceMul, Nat.reduceLT, Nat.reduceLeDiff, Nat.reduceEqDiff, Nat.reduceBEq, Nat.reduceBNe, Int.reduceToNat, Int.reduceLT, Int.reduceLE, Int.reduceNeg, reduceCtorEq, Int.reduceEq, Int.reduceNe])
      · rw [c5] at c5'
        simp -dsimp -implicitDefEqProofs (maxSteps := 1000000) only [go_sem, ↓reduceIte, Nat.reduceAdd, Nat.reduceSub, Nat.reduceMul, Nat.reduceLT, Nat.reduceLeDiff, Nat.reduceEqDiff, Nat.reduceBEq, Nat.reduceBNe, Int.reduceToNat, Int.reduceLT, Int.reduceLE, Int.reduceNeg, reduceCtorEq, Int.reduceEq, Int.reduceNe]
        exact hbad (by simp only [okRow, ← c5', Bool.not_true, Bool.and_false])
    · have hi' : i = rows.length := by omega
      subst hi'
      have ha : rows.all okRow = true := by
        rw [List.all_eq_true]
        intro r hr
        obtain ⟨j, hj⟩ := List.getElem?_of_mem hr
        have hj' := (List.getElem?_eq_some_iff.1 hj).1
        have := (hall j hj').1
        rw [getT hj'] at hj; cases hj; exact this
      have hr : rise (rows.map toRu) = true := by
        simp only [rise, decide_eq_true_eq, List.length_map]
        intro j hj h1
        have := (hall j hj).2 h1
        rw [getTR hj, getTR (by omega)]
        exact this
      rw [List.take_length] at htot
      simp only [validT, ha, hr, Bool.and_true, Bool.true_and, decide_eq_true htot]
/-- A row of a pair. -/
def rowOf (rows : List Ro4) (a b : Int) : Option Ro4 := rows.find? fun r => decide (r.f = a) && decide (r.n = b)
abbrev rowR (o : Option Ro4) : AV := .t [match o with | some r => RowA r | none => .g [I 0, I 0, nilS, I 0], Bo o.isSome]
theorem clRowR (o : Option Ro4) : Cl (rowR o) := by
  refine .t fun s hs => ?_
  simp only [List.mem_cons, List.not_mem_nil, or_false] at hs
  rcases hs with rfl | rfl
  · cases o with
    | none => simp [Cl_g, Cl_v]
    | some r => exact .g (clRow r)
  · exact .v _
theorem find52 (rows : List Ro4) (a b : Int) (hl : rows.length < 2 ^ 62) : PFun Try.prog 52 [TA rows, I a, I b] (rowR (rowOf rows a b)) := by
  refine PFun.intro 400 mixed Try.func52 (by kernel_rfl) rfl (clRowR _) (Nat.le_of_ble_eq_true rfl) ?_; rw [Try.ntmps52, Try.results52]
  simp -dsimp -implicitDefEqProofs (maxSteps := 1000000) only [go_sem, ↓reduceIte, Nat.reduceAdd, Nat.reduceSub, Nat.reduceMul, Nat.reduceLT, Nat.reduceLeDiff, Nat.reduceEqDiff, Nat.reduceBEq, Nat.reduceBNe, Int.reduceToNat, Int.reduceLT, Int.reduceLE, Int.reduceNeg, reduceCtorEq, Int.reduceEq, Int.reduceNe, List.length_map]
  refine ⟨{i : Nat // i ≤ rows.length ∧ ∀ j, j < i → (decide ((rows.getD j zT).f = a) && decide ((rows.getD j zT).n = b)) = false}, fun i => ⟨30, tl [(1, I a), (2, I b), (6, .ptr 0 0 0), (11, Tbl rows), (12, I rows.length), (13, I i.1)], [(0, ⟨4, [[I 0, I 0, nilS, I 0]]⟩)], 1, .nil⟩, fun i => rows.length - i.1,
    ⟨⟨0, by omega, by intro j h; omega⟩, Le.tl (Ls := []) (y := none) [(0, 1)] ?_ ?_ (by simp) (by simp [sg]) trivial⟩, fun i => ?_⟩
  · simp -dsimp -implicitDefEqProofs (maxSteps := 1000000) only [go_sem, ↓reduceIte, Nat.reduceAdd, Nat.reduceSub, Nat.reduceMul, Nat.reduceLT, Nat.reduceLeDiff, Nat.reduceEqDiff, Nat.reduceBEq, Nat.reduceBNe, Int.reduceToNat, Int.reduceLT, Int.reduceLE, Int.reduceNeg, reduceCtorEq, Int.reduceEq, Int.reduceNe]
  · simp -dsimp -implicitDefEqProofs (maxSteps := 1000000) only [go_sem, ↓reduceIte, Nat.reduceAdd, Nat.reduceSub, Nat.reduceMul, Nat.reduceLT, Nat.reduceLeDiff, Nat.reduceEqDiff, Nat.reduceBEq, Nat.reduceBNe, Int.reduceToNat, Int.reduceLT, Int.reduceLE, Int.reduceNeg, reduceCtorEq, Int.reduceEq, Int.reduceNe]
    exact renL_F (by simp -dsimp -implicitDefEqProofs (maxSteps := 1000000) only [go_sem, ↓reduceIte, Nat.reduceAdd, Nat.reduceSub, Nat.reduceMul, Nat.reduceLT, Nat.reduceLeDiff, Nat.reduceEqDiff, Nat.reduceBEq, Nat.reduceBNe, Int.reduceToNat, Int.reduceLT, Int.reduceLE, Int.reduceNeg, reduceCtorEq, Int.reduceEq, Int.reduceNe])
  · obtain ⟨i, hi, hall⟩ := i
    simp -dsimp -implicitDefEqProofs (maxSteps := 1000000) only [go_sem, ↓reduceIte, Nat.reduceAdd, Nat.reduceSub, Nat.reduceMul, Nat.reduceLT, Nat.reduceLeDiff, Nat.reduceEqDiff, Nat.reduceBEq, Nat.reduceBNe, Int.reduceToNat, Int.reduceLT, Int.reduceLE, Int.reduceNeg, reduceCtorEq, Int.reduceEq, Int.reduceNe, List.length_map]
    refine ⟨fun h => ?_, fun h => ?_⟩
    · have hlt : i < rows.length := by omega
      simp -dsimp -implicitDefEqProofs (maxSteps := 1000000) only [go_sem, ↓reduceIte, Nat.reduceAdd, Nat.reduceSub, Nat.reduceMul, Nat.reduceLT, Nat.reduceLeDiff, Nat.reduceEqDiff, Nat.reduceBEq, Nat.reduceBNe, Int.reduceToNat, Int.reduceLT, Int.reduceLE, Int.reduceNeg, reduceCtorEq, Int.reduceEq, Int.reduceNe, List.getElem?_map, Int.toNat_natCast, Int.natCast_nonneg, getT hlt]
      have hstay : (decide ((rows.getD i zT).f = a) && decide ((rows.getD i zT).n = b)) = false → ∀ j, j < i + 1 → (decide ((rows.getD j zT).f = a) && decide ((rows.getD j zT).n = b)) = false := by
        intro hb j hj
        by_cases hji : j = i
        · subst hji; exact hb
        · exact hall j (by omega)
      have e1 : wr ((i : Int) + 1) = ((i + 1 : Nat) : Int) := by rw [wr_in] <;> omega
      refine ⟨fun h1 => ⟨fun h2 => ?_, fun h2 => ?_⟩, fun h1 => ?_⟩
      · have hf : rowOf rows a b = some (rows.getD i zT) := by
          unfold rowOf
          rw [List.find?_eq_some_iff_getElem]
          have e : rows[i] = rows.getD i zT := by simp [List.getD, hlt]
          exact ⟨by simp only [h1, h2, decide_true, Bool.and_self], i, hlt, e, fun j hj => by
            have := hall j hj
            simp only [List.getD, List.getElem?_eq_getElem (show j < rows.length by omega), Option.getD_some] at this
            simp only [this]
            rfl⟩
        rw [hf]
        rfl
      · refine ⟨⟨i + 1, by omega, hstay (by simp only [h2, decide_false, Bool.and_false])⟩, by show rows.length - (i + 1) < rows.length - i; omega, Le.tl (Ls := []) (y := none) [] ?_ ?_ (by simp) (by simp [sg]) trivial⟩
        · simp -dsimp -implicitDefEqProofs (maxSteps := 1000000) only [go_sem, ↓reduceIte, Nat.reduceAdd, Nat.reduceSub, Nat.reduceMul, Nat.reduceLT, Nat.reduceLeDiff, Nat.reduceEqDiff, Nat.reduceBEq, Nat.reduceBNe, Int.reduceToNat, Int.reduceLT, Int.reduceLE, Int.reduceNeg, reduceCtorEq, Int.reduceEq, Int.reduceNe, e1]
        · simp -dsimp -implicitDefEqProofs (maxSteps := 1000000) only [go_sem, ↓reduceIte, Nat.reduceAdd, Nat.reduceSub, Nat.reduceMul, Nat.reduceLT, Nat.reduceLeDiff, Nat.reduceEqDiff, Nat.reduceBEq, Nat.reduceBNe, Int.reduceToNat, Int.reduceLT, Int.reduceLE, Int.reduceNeg, reduceCtorEq, Int.reduceEq, Int.reduceNe]
          exact renL_F (by simp -dsimp -implicitDefEqProofs (maxSteps := 1000000) only [go_sem, ↓reduceIte, Nat.reduceAdd, Nat.reduceSub, Nat.reduceMul, Nat.reduceLT, Nat.reduceLeDiff, Nat.reduceEqDiff, Nat.reduceBEq, Nat.reduceBNe, Int.reduceToNat, Int.reduceLT, Int.reduceLE, Int.reduceNeg, reduceCtorEq, Int.reduceEq, Int.reduceNe])
      · refine ⟨⟨i + 1, by omega, hstay (by simp only [h1, decide_false, Bool.false_and])⟩, by show rows.length - (i + 1) < rows.length - i; omega, Le.tl (Ls := []) (y := none) [] ?_ ?_ (by simp) (by simp [sg]) trivial⟩
        · simp -dsimp -implicitDefEqProofs (maxSteps := 1000000) only [go_sem, ↓reduceIte, Nat.reduceAdd, Nat.reduceSub, Nat.reduceMul, Nat.reduceLT, Nat.reduceLeDiff, Nat.reduceEqDiff, Nat.reduceBEq, Nat.reduceBNe, Int.reduceToNat, Int.reduceLT, Int.reduceLE, Int.reduceNeg, reduceCtorEq, Int.reduceEq, Int.reduceNe, e1]
        · simp -dsimp -implicitDefEqProofs (maxSteps := 1000000) only [go_sem, ↓reduceIte, Nat.reduceAdd, Nat.reduceSub, Nat.reduceMul, Nat.reduceLT, Nat.reduceLeDiff, Nat.reduceEqDiff, Nat.reduceBEq, Nat.reduceBNe, Int.reduceToNat, Int.reduceLT, Int.reduceLE, Int.reduceNeg, reduceCtorEq, Int.reduceEq, Int.reduceNe]
          exact renL_F (by simp -dsimp -implicitDefEqProofs (maxSteps := 1000000) only [go_sem, ↓reduceIte, Nat.reduceAdd, Nat.reduceSub, Nat.reduceMul, Nat.reduceLT, Nat.reduceLeDiff, Nat.reduceEqDiff, Nat.reduceBEq, Nat.reduceBNe, Int.reduceToNat, Int.reduceLT, Int.reduceLE, Int.reduceNeg, reduceCtorEq, Int.reduceEq, Int.reduceNe])
    · have hi' : i = rows.length := by omega
      subst hi'
      have hf : rowOf rows a b = none := by
        unfold rowOf
        rw [List.find?_eq_none]
        intro r hr
        obtain ⟨j, hj, rfl⟩ := List.getElem_of_mem hr
        have := hall j hj
        simp only [List.getD, List.getElem?_eq_getElem hj, Option.getD_some] at this
        simp only [this]
        simp
      rw [hf]
      rfl
end

section
set_option maxRecDepth 20000
attribute [local go_sem] clIntsL clRusL clSets clRows clTbl clSetsT'
theorem okToRu {r : Ro4} (h : okRow r = true) : okR (toRu r) = true := by
  simp only [okRow, Bool.and_eq_true] at h
  obtain ⟨⟨⟨⟨h1, h2⟩, _⟩, _⟩, _⟩ := h
  simp [okR, toRu, h1, h2, inCoord]
theorem rTable51 (rows : List Ro4) (hl : rows.length < 2 ^ 40) : PFun Try.prog 51 [TA rows] (Bo (validT rows)) := by
  refine PFun.intro 400 mixed Try.func51 (by kernel_rfl) rfl (by first | exact .v _ | (simp [Cl_v, Cl_t, Cl_g, Cl_fn, Cl_rp, Cl_ro]; done) | (simp [Cl_v, Cl_t, Cl_g, Cl_fn, Cl_rp, Cl_ro, or_imp, forall_and]; done) | (split <;> simp [Cl_v, Cl_t, Cl_g, Cl_fn, Cl_rp, Cl_ro])) (Nat.le_of_ble_eq_true rfl) ?_; rw [Try.ntmps51, Try.results51]
  simp -dsimp -implicitDefEqProofs (maxSteps := 1000000) only [go_sem, ↓reduceIte, Nat.reduceAdd, Nat.reduceSub, Nat.reduceMul, Nat.reduceLT, Nat.reduceLeDiff, Nat.reduceEqDiff, Nat.reduceBEq, Nat.reduceBNe, Int.reduceToNat, Int.reduceLT, Int.reduceLE, Int.reduceNeg, reduceCtorEq, Int.reduceEq, Int.reduceNe, List.length_map]
  refine ⟨{i : Nat // i ≤ rows.length ∧ total (rows.take i) ≤ 2000 * i ∧ ∀ j, j < i → okRow (rows.getD j zT) = true ∧ (1 ≤ j → cmpR (rows.getD (j - 1) zT) (rows.getD j zT) < 0)}, fun i => ⟨95, tl [(1, .ptr 0 0 0), (3, I (total (rows.take i.1))), (9, Tbl rows), (10, I rows.length), (11, I i.1)], [(0, ⟨1, [[Tbl rows]]⟩)], 1, .nil⟩, fun i => rows.length - i.1,
    ⟨⟨0, by omega, by simp [total], by intro j h; omega⟩, Le.tl (Ls := []) (y := none) [] ?_ ?_ (by simp) (by simp [sg]) trivial⟩, fun i => ?_⟩
  · simp -dsimp -implicitDefEqProofs (maxSteps := 1000000) only [go_sem, ↓reduceIte, Nat.reduceAdd, Nat.reduceSub, Nat.reduceMul, Nat.reduceLT, Nat.reduceLeDiff, Nat.reduceEqDiff, Nat.reduceBEq, Nat.reduceBNe, Int.reduceToNat, Int.reduceLT, Int.reduceLE, Int.reduceNeg, reduceCtorEq, Int.reduceEq, Int.reduceNe]
    try rfl
  · simp -dsimp -implicitDefEqProofs (maxSteps := 1000000) only [go_sem, ↓reduceIte, Nat.reduceAdd, Nat.reduceSub, Nat.reduceMul, Nat.reduceLT, Nat.reduceLeDiff, Nat.reduceEqDiff, Nat.reduceBEq, Nat.reduceBNe, Int.reduceToNat, Int.reduceLT, Int.reduceLE, Int.reduceNeg, reduceCtorEq, Int.reduceEq, Int.reduceNe]
    exact renL_F (by simp -dsimp -implicitDefEqProofs (maxSteps := 1000000) only [go_sem, ↓reduceIte, Nat.reduceAdd, Nat.reduceSub, Nat.reduceMul, Nat.reduceLT, Nat.reduceLeDiff, Nat.reduceEqDiff, Nat.reduceBEq, Nat.reduceBNe, Int.reduceToNat, Int.reduceLT, Int.reduceLE, Int.reduceNeg, reduceCtorEq, Int.reduceEq, Int.reduceNe])
  · obtain ⟨i, hi, htot, hall⟩ := i
    simp -dsimp -implicitDefEqProofs (maxSteps := 1000000) only [go_sem, ↓reduceIte, Nat.reduceAdd, Nat.reduceSub, Nat.reduceMul, Nat.reduceLT, Nat.reduceLeDiff, Nat.reduceEqDiff, Nat.reduceBEq, Nat.reduceBNe, Int.reduceToNat, Int.reduceLT, Int.reduceLE, Int.reduceNeg, reduceCtorEq, Int.reduceEq, Int.reduceNe, List.length_map]
    refine ⟨fun h => ?_, fun h => ?_⟩
    · have hlt : i < rows.length := by omega
      obtain ⟨r, hr⟩ : ∃ r, r = rows.getD i zT := ⟨_, rfl⟩
      have hg : rows[i]? = some r := hr ▸ getT hlt
      have hbad : okRow r = false → Bo false = Bo (validT rows) := fun hb => by rw [notT_row hlt (hr ▸ hb)]
      simp -dsimp -implicitDefEqProofs (maxSteps := 1000000) only [go_sem, ↓reduceIte, Nat.reduceAdd, Nat.reduceSub, Nat.reduceMul, Nat.reduceLT, Nat.reduceLeDiff, Nat.reduceEqDiff, Nat.reduceBEq, Nat.reduceBNe, Int.reduceToNat, Int.reduceLT, Int.reduceLE, Int.reduceNeg, reduceCtorEq, Int.reduceEq, Int.reduceNe, List.getElem?_map, Int.toNat_natCast, Int.natCast_nonneg, hg, List.length_map]
      refine AtFn.pure0 (code36 _) ?_
      simp -dsimp -implicitDefEqProofs (maxSteps := 1000000) only [go_sem, ↓reduceIte, Nat.reduceAdd, Nat.reduceSub, Nat.reduceMul, Nat.reduceLT, Nat.reduceLeDiff, Nat.reduceEqDiff, Nat.reduceBEq, Nat.reduceBNe, Int.reduceToNat, Int.reduceLT, Int.reduceLE, Int.reduceNeg, reduceCtorEq, Int.reduceEq, Int.reduceNe]
      cases c1 : inCode r.f
      · simp -dsimp -implicitDefEqProofs (maxSteps := 1000000) only [go_sem, ↓reduceIte, Nat.reduceAdd, Nat.reduceSub, Nat.reduceMul, Nat.reduceLT, Nat.reduceLeDiff, Nat.reduceEqDiff, Nat.reduceBEq, Nat.reduceBNe, Int.reduceToNat, Int.reduceLT, Int.reduceLE, Int.reduceNeg, reduceCtorEq, Int.reduceEq, Int.reduceNe]
        exact hbad (by simp only [okRow, c1, Bool.false_and])
      simp -dsimp -implicitDefEqProofs (maxSteps := 1000000) only [go_sem, ↓reduceIte, Nat.reduceAdd, Nat.reduceSub, Nat.reduceMul, Nat.reduceLT, Nat.reduceLeDiff, Nat.reduceEqDiff, Nat.reduceBEq, Nat.reduceBNe, Int.reduceToNat, Int.reduceLT, Int.reduceLE, Int.reduceNeg, reduceCtorEq, Int.reduceEq, Int.reduceNe]
      refine AtFn.pure0 (code36 _) ?_
      simp -dsimp -implicitDefEqProofs (maxSteps := 1000000) only [go_sem, ↓reduceIte, Nat.reduceAdd, Nat.reduceSub, Nat.reduceMul, Nat.reduceLT, Nat.reduceLeDiff, Nat.reduceEqDiff, Nat.reduceBEq, Nat.reduceBNe, Int.reduceToNat, Int.reduceLT, Int.reduceLE, Int.reduceNeg, reduceCtorEq, Int.reduceEq, Int.reduceNe]
      cases c2 : inCode r.n
      · simp -dsimp -implicitDefEqProofs (maxSteps := 1000000) only [go_sem, ↓reduceIte, Nat.reduceAdd, Nat.reduceSub, Nat.reduceMul, Nat.reduceLT, Nat.reduceLeDiff, Nat.reduceEqDiff, Nat.reduceBEq, Nat.reduceBNe, Int.reduceToNat, Int.reduceLT, Int.reduceLE, Int.reduceNeg, reduceCtorEq, Int.reduceEq, Int.reduceNe]
        exact hbad (by simp only [okRow, c2, Bool.and_false, Bool.false_and])
      simp -dsimp -implicitDefEqProofs (maxSteps := 1000000) only [go_sem, ↓reduceIte, Nat.reduceAdd, Nat.reduceSub, Nat.reduceMul, Nat.reduceLT, Nat.reduceLeDiff, Nat.reduceEqDiff, Nat.reduceBEq, Nat.reduceBNe, Int.reduceToNat, Int.reduceLT, Int.reduceLE, Int.reduceNeg, reduceCtorEq, Int.reduceEq, Int.reduceNe]
      refine AtFn.pure0 (code36 _) ?_
      simp -dsimp -implicitDefEqProofs (maxSteps := 1000000) only [go_sem, ↓reduceIte, Nat.reduceAdd, Nat.reduceSub, Nat.reduceMul, Nat.reduceLT, Nat.reduceLeDiff, Nat.reduceEqDiff, Nat.reduceBEq, Nat.reduceBNe, Int.reduceToNat, Int.reduceLT, Int.reduceLE, Int.reduceNeg, reduceCtorEq, Int.reduceEq, Int.reduceNe]
      cases c3 : inCode r.la
      · simp -dsimp -implicitDefEqProofs (maxSteps := 1000000) only [go_sem, ↓reduceIte, Nat.reduceAdd, Nat.reduceSub, Nat.reduceMul, Nat.reduceLT, Nat.reduceLeDiff, Nat.reduceEqDiff, Nat.reduceBEq, Nat.reduceBNe, Int.reduceToNat, Int.reduceLT, Int.reduceLE, Int.reduceNeg, reduceCtorEq, Int.reduceEq, Int.reduceNe]
        exact hbad (by simp only [okRow, c3, Bool.and_false, Bool.false_and])
      simp -dsimp -implicitDefEqProofs (maxSteps := 1000000) only [go_sem, ↓reduceIte, Nat.reduceAdd, Nat.reduceSub, Nat.reduceMul, Nat.reduceLT, Nat.reduceLeDiff, Nat.reduceEqDiff, Nat.reduceBEq, Nat.reduceBNe, Int.reduceToNat, Int.reduceLT, Int.reduceLE, Int.reduceNeg, reduceCtorEq, Int.reduceEq, Int.reduceNe, List.length_map]
      refine ⟨fun c4 => ?_, fun c4 => ?_⟩
      · try simp -dsimp -implicitDefEqProofs (maxSteps := 1000000) only [go_sem, ↓reduceIte, Nat.reduceAdd, Nat.reduceSub, Nat.reduceMul, Nat.reduceLT, Nat.reduceLeDiff, Nat.reduceEqDiff, Nat.reduceBEq, Nat.reduceBNe, Int.reduceToNat, Int.reduceLT, Int.reduceLE, Int.reduceNeg, reduceCtorEq, Int.reduceEq, Int.reduceNe]
        have : okSets r.ss = false := by
          have : decide (r.ss.length ≤ 2000) = false := by rw [decide_eq_false_iff_not]; omega
          simp [okSets, this]
        exact hbad (by simp only [okRow, this, Bool.and_false, Bool.false_and])
      · try simp -dsimp -implicitDefEqProofs (maxSteps := 1000000) only [go_sem, ↓reduceIte, Nat.reduceAdd, Nat.reduceSub, Nat.reduceMul, Nat.reduceLT, Nat.reduceLeDiff, Nat.reduceEqDiff, Nat.reduceBEq, Nat.reduceBNe, Int.reduceToNat, Int.reduceLT, Int.reduceLE, Int.reduceNeg, reduceCtorEq, Int.reduceEq, Int.reduceNe]
        refine AtCode.draw 27 [([], []), ([0], []), ([0, 1], []), ([0, 1, 2], []), ([0, 1, 2, 3], []), ([0, 1, 2], []), ([0, 1, 2, 5], []), ([0, 1, 2, 3, 4, 5, 6], []), ([0, 1, 2, 3, 4, 5, 6, 7], []), ([0, 1, 2, 3, 4, 5, 6, 7, 8], []), ([0, 1, 2, 3, 4, 5, 6, 7, 8, 9], []), ([0, 1, 2], []), ([0, 1, 2, 11], []), ([0, 1, 2], []), ([0, 1, 2, 13], []), ([0, 1, 2, 11, 12, 13, 14], []), ([0, 1, 2, 11, 12, 13, 14, 15], []), ([0, 1, 2, 11, 12, 13, 14, 15, 16], []), ([0, 1, 2, 3, 4, 5, 6, 7, 8, 9, 10, 11, 12, 13, 14, 15, 16, 17], []), ([0, 1, 2], []), ([0, 1, 2, 19], []), ([0, 1, 2, 19, 20], []), ([0, 1, 2], []), ([0, 1, 2, 22], []), ([0, 1, 2, 19, 20, 21, 22, 23], []), ([0, 1, 2, 3, 4, 5, 6, 7, 8, 9, 10, 11, 12, 13, 14, 15, 16, 17, 18, 19, 20, 21, 22, 23, 24], []), ([0, 1, 2, 3, 4, 5, 6, 7, 8, 9, 10, 11, 12, 13, 14, 15, 16, 17, 18, 19, 20, 21, 22, 23, 24, 25], [])] (by kernel_rfl) ?_
        refine ?_
        by_cases h0 : 0 < (i : Int)
        · have e1 : wr ((i : Int) - 1) = ((i - 1 : Nat) : Int) := by rw [wr_in] <;> omega
          have hgp := getT (show i - 1 < rows.length by omega)
          obtain ⟨p, hp⟩ : ∃ p, p = rows.getD (i - 1) zT := ⟨_, rfl⟩
          rw [← hp] at hgp
          have hpo := (hall (i - 1) (by omega)).1
          rw [← hp] at hpo
          simp -dsimp -implicitDefEqProofs (maxSteps := 1000000) only [go_sem, ↓reduceIte, Nat.reduceAdd, Nat.reduceSub, Nat.reduceMul, Nat.reduceLT, Nat.reduceLeDiff, Nat.reduceEqDiff, Nat.reduceBEq, Nat.reduceBNe, Int.reduceToNat, Int.reduceLT, Int.reduceLE, Int.reduceNeg, reduceCtorEq, Int.reduceEq, Int.reduceNe, h0, true_implies, e1, List.getElem?_map, Int.toNat_natCast, Int.natCast_nonneg, hgp]
          have hco : okR (toRu r) = true := by simp [okR, toRu, c1, c2, inCoord]
          have hpc := pair_cmp (toRu p) (toRu r) (okToRu hpo) hco
          change _ ∧ (wr (wr (256 * p.f) + p.n) < wr (wr (256 * r.f) + r.n) ↔ cmpR p r < 0) at hpc
          refine ⟨fun h3 => ?_, fun h3 => ?_⟩
          · have h4 : 0 ≤ cmpR p r := by
              have := hpc.2
              omega
            rw [notT_rise hlt (by omega) (hr ▸ hp ▸ h4)]
          · have h4 : cmpR p r < 0 := hpc.2.1 (by omega)
            have hrs : r.ss.length ≤ 2000 := by omega
            have e0 : wr ((total (rows.take i) : Int) + (r.ss.length : Int)) = ((total (rows.take (i + 1)) : Nat) : Int) := by
              rw [total_take rows i hlt, ← hr, wr_in] <;> omega
            refine ⟨{j : Nat // j ≤ r.ss.length ∧ ∀ k, k < j → inCode (r.ss.getD k (0, 0)).1 = true ∧ inCoord (r.ss.getD k (0, 0)).2 = true}, fun j => ⟨95, tl [(1, .ptr 0 0 0), (3, I (total (rows.take i))), (5, .ptr 1 0 0), (9, Tbl rows), (10, I rows.length), (11, I i), (66, Sets r.ss), (67, I r.ss.length), (68, I j.1)], [(0, ⟨1, [[Tbl rows]]⟩), (1, ⟨4, [rowC r]⟩)], 2, .nil⟩, fun j => r.ss.length - j.1,
              ⟨⟨0, by omega, by intro j h; omega⟩, Le.tl (Ls := []) (y := none) [] ?_ ?_ (by simp) (by simp [sg]) trivial⟩, fun j => ?_⟩
            · simp -dsimp -implicitDefEqProofs (maxSteps := 1000000) only [go_sem, ↓reduceIte, Nat.reduceAdd, Nat.reduceSub, Nat.reduceMul, Nat.reduceLT, Nat.reduceLeDiff, Nat.reduceEqDiff, Nat.reduceBEq, Nat.reduceBNe, Int.reduceToNat, Int.reduceLT, Int.reduceLE, Int.reduceNeg, reduceCtorEq, Int.reduceEq, Int.reduceNe, List.length_map]
            · simp -dsimp -implicitDefEqProofs (maxSteps := 1000000) only [go_sem, ↓reduceIte, Nat.reduceAdd, Nat.reduceSub, Nat.reduceMul, Nat.reduceLT, Nat.reduceLeDiff, Nat.reduceEqDiff, Nat.reduceBEq, Nat.reduceBNe, Int.reduceToNat, Int.reduceLT, Int.reduceLE, Int.reduceNeg, reduceCtorEq, Int.reduceEq, Int.reduceNe]
              exact ⟨renL_F (by simp -dsimp -implicitDefEqProofs (maxSteps := 1000000) only [go_sem, ↓reduceIte, Nat.reduceAdd, Nat.reduceSub, Nat.reduceMul, Nat.reduceLT, Nat.reduceLeDiff, Nat.reduceEqDiff, Nat.reduceBEq, Nat.reduceBNe, Int.reduceToNat, Int.reduceLT, Int.reduceLE, Int.reduceNeg, reduceCtorEq, Int.reduceEq, Int.reduceNe]), renL_F (by simp -dsimp -implicitDefEqProofs (maxSteps := 1000000) only [go_sem, ↓reduceIte, Nat.reduceAdd, Nat.reduceSub, Nat.reduceMul, Nat.reduceLT, Nat.reduceLeDiff, Nat.reduceEqDiff, Nat.reduceBEq, Nat.reduceBNe, Int.reduceToNat, Int.reduceLT, Int.reduceLE, Int.reduceNeg, reduceCtorEq, Int.reduceEq, Int.reduceNe])⟩
            · obtain ⟨j, hj, hal2⟩ := j
              simp -dsimp -implicitDefEqProofs (maxSteps := 1000000) only [go_sem, ↓reduceIte, Nat.reduceAdd, Nat.reduceSub, Nat.reduceMul, Nat.reduceLT, Nat.reduceLeDiff, Nat.reduceEqDiff, Nat.reduceBEq, Nat.reduceBNe, Int.reduceToNat, Int.reduceLT, Int.reduceLE, Int.reduceNeg, reduceCtorEq, Int.reduceEq, Int.reduceNe, List.length_map]
              refine ⟨fun hh => ?_, fun hh => ?_⟩
              · have hlt2 : j < r.ss.length := by omega
                have e2 : wr ((j : Int) + 1) = ((j + 1 : Nat) : Int) := by rw [wr_in] <;> omega
                simp -dsimp -implicitDefEqProofs (maxSteps := 1000000) only [go_sem, ↓reduceIte, Nat.reduceAdd, Nat.reduceSub, Nat.reduceMul, Nat.reduceLT, Nat.reduceLeDiff, Nat.reduceEqDiff, Nat.reduceBEq, Nat.reduceBNe, Int.reduceToNat, Int.reduceLT, Int.reduceLE, Int.reduceNeg, reduceCtorEq, Int.reduceEq, Int.reduceNe, List.getElem?_map, Int.toNat_natCast, Int.natCast_nonneg, getS hlt2]
                refine AtFn.pure0 (code36 _) ?_
                simp -dsimp -implicitDefEqProofs (maxSteps := 1000000) only [go_sem, ↓reduceIte, Nat.reduceAdd, Nat.reduceSub, Nat.reduceMul, Nat.reduceLT, Nat.reduceLeDiff, Nat.reduceEqDiff, Nat.reduceBEq, Nat.reduceBNe, Int.reduceToNat, Int.reduceLT, Int.reduceLE, Int.reduceNeg, reduceCtorEq, Int.reduceEq, Int.reduceNe]
                have hmem := List.mem_of_getElem? (getS hlt2)
                cases d1 : inCode (r.ss.getD j (0, 0)).1
                · simp -dsimp -implicitDefEqProofs (maxSteps := 1000000) only [go_sem, ↓reduceIte, Nat.reduceAdd, Nat.reduceSub, Nat.reduceMul, Nat.reduceLT, Nat.reduceLeDiff, Nat.reduceEqDiff, Nat.reduceBEq, Nat.reduceBNe, Int.reduceToNat, Int.reduceLT, Int.reduceLE, Int.reduceNeg, reduceCtorEq, Int.reduceEq, Int.reduceNe]
                  refine hbad ?_
                  have : (r.ss.all fun s => inCode s.1) = false := by rw [List.all_eq_false]; exact ⟨_, hmem, by rw [d1]; simp⟩
                  simp only [okRow, this, Bool.and_false]
                · simp -dsimp -implicitDefEqProofs (maxSteps := 1000000) only [go_sem, ↓reduceIte, Nat.reduceAdd, Nat.reduceSub, Nat.reduceMul, Nat.reduceLT, Nat.reduceLeDiff, Nat.reduceEqDiff, Nat.reduceBEq, Nat.reduceBNe, Int.reduceToNat, Int.reduceLT, Int.reduceLE, Int.reduceNeg, reduceCtorEq, Int.reduceEq, Int.reduceNe]
                  have hk0 : inCoord (r.ss.getD j (0, 0)).2 = false → Bo false = Bo (validT rows) := fun hb => by
                    refine hbad ?_
                    have : (r.ss.all fun s => inCoord s.2) = false := by rw [List.all_eq_false]; exact ⟨_, hmem, by rw [hb]; simp⟩
                    simp only [okRow, okSets, this, Bool.and_false, Bool.false_and]
                  refine ⟨fun h6 => ?_, fun h6 => ⟨fun h7 => ?_, fun h7 => ?_⟩⟩
                  · exact hk0 (by simp only [inCoord, Bool.and_eq_false_iff, decide_eq_false_iff_not]; omega)
                  · exact hk0 (by simp only [inCoord, Bool.and_eq_false_iff, decide_eq_false_iff_not]; omega)
                  · have hk1 : inCoord (r.ss.getD j (0, 0)).2 = true := by simp only [inCoord, Bool.and_eq_true, decide_eq_true_eq]; omega
                    refine ⟨⟨j + 1, by omega, fun k hk => ?_⟩, by show r.ss.length - (j + 1) < r.ss.length - j; omega, Le.tl (Ls := []) (y := none) [] ?_ ?_ (by simp) (by simp [sg]) trivial⟩
                    · by_cases hkj : k = j
                      · subst hkj; exact ⟨d1, hk1⟩
                      · exact hal2 k (by omega)
                    · simp -dsimp -implicitDefEqProofs (maxSteps := 1000000) only [go_sem, ↓reduceIte, Nat.reduceAdd, Nat.reduceSub, Nat.reduceMul, Nat.reduceLT, Nat.reduceLeDiff, Nat.reduceEqDiff, Nat.reduceBEq, Nat.reduceBNe, Int.reduceToNat, Int.reduceLT, Int.reduceLE, Int.reduceNeg, reduceCtorEq, Int.reduceEq, Int.reduceNe, e2]
                    · simp -dsimp -implicitDefEqProofs (maxSteps := 1000000) only [go_sem, ↓reduceIte, Nat.reduceAdd, Nat.reduceSub, Nat.reduceMul, Nat.reduceLT, Nat.reduceLeDiff, Nat.reduceEqDiff, Nat.reduceBEq, Nat.reduceBNe, Int.reduceToNat, Int.reduceLT, Int.reduceLE, Int.reduceNeg, reduceCtorEq, Int.reduceEq, Int.reduceNe]
                      exact ⟨renL_F (by simp -dsimp -implicitDefEqProofs (maxSteps := 1000000) only [go_sem, ↓reduceIte, Nat.reduceAdd, Nat.reduceSub, Nat.reduceMul, Nat.reduceLT, Nat.reduceLeDiff, Nat.reduceEqDiff, Nat.reduceBEq, Nat.reduceBNe, Int.reduceToNat, Int.reduceLT, Int.reduceLE, Int.reduceNeg, reduceCtorEq, Int.reduceEq, Int.reduceNe]), renL_F (by simp -dsimp -implicitDefEqProofs (maxSteps := 1000000) only [go_sem, ↓reduceIte, Nat.reduceAdd, Nat.reduceSub, Nat.reduceMul, Nat.reduceLT, Nat.reduceLeDiff, Nat.reduceEqDiff, Nat.reduceBEq, Nat.reduceBNe, Int.reduceToNat, Int.reduceLT, Int.reduceLE, Int.reduceNeg, reduceCtorEq, Int.reduceEq, Int.reduceNe])⟩
              · have hj' : j = r.ss.length := by omega
                subst hj'
                have ga : (r.ss.all fun s => inCode s.1) = true := by
                  rw [List.all_eq_true]
                  intro s hsm
                  obtain ⟨k, hk⟩ := List.getElem?_of_mem hsm
                  have hk' := (List.getElem?_eq_some_iff.1 hk).1
                  have := (hal2 k hk').1
                  rw [getS hk'] at hk; cases hk; exact this
                have gb : (r.ss.all fun s => inCoord s.2) = true := by
                  rw [List.all_eq_true]
                  intro s hsm
                  obtain ⟨k, hk⟩ := List.getElem?_of_mem hsm
                  have hk' := (List.getElem?_eq_some_iff.1 hk).1
                  have := (hal2 k hk').2
                  rw [getS hk'] at hk; cases hk; exact this
                have gc : decide (r.ss.length ≤ 2000) = true := by rw [decide_eq_true_eq]; omega
                have hok : okRow r = true := by simp only [okRow, okSets, c1, c2, c3, ga, gb, gc, Bool.and_self]
                have e3 : wr ((i : Int) + 1) = ((i + 1 : Nat) : Int) := by rw [wr_in] <;> omega
                have ht2 : total (rows.take (i + 1)) ≤ 2000 * (i + 1) := by rw [total_take rows i hlt, ← hr]; omega
                simp -dsimp -implicitDefEqProofs (maxSteps := 1000000) only [go_sem, ↓reduceIte, Nat.reduceAdd, Nat.reduceSub, Nat.reduceMul, Nat.reduceLT, Nat.reduceLeDiff, Nat.reduceEqDiff, Nat.reduceBEq, Nat.reduceBNe, Int.reduceToNat, Int.reduceLT, Int.reduceLE, Int.reduceNeg, reduceCtorEq, Int.reduceEq, Int.reduceNe, List.length_map, e0]
                refine ⟨⟨i + 1, by omega, ht2, fun j hj => ?_⟩, by show rows.length - (i + 1) < rows.length - i; omega, Le.tl (Ls := []) (y := none) [] ?_ ?_ (by simp) (by simp [sg]) trivial⟩
                · by_cases hji : j = i
                  · subst hji; exact ⟨hr ▸ hok, fun _ => hr ▸ hp ▸ h4⟩
                  · exact hall j (by omega)
                · simp -dsimp -implicitDefEqProofs (maxSteps := 1000000) only [go_sem, ↓reduceIte, Nat.reduceAdd, Nat.reduceSub, Nat.reduceMul, Nat.reduceLT, Nat.reduceLeDiff, Nat.reduceEqDiff, Nat.reduceBEq, Nat.reduceBNe, Int.reduceToNat, Int.reduceLT, Int.reduceLE, Int.reduceNeg, reduceCtorEq, Int.reduceEq, Int.reduceNe, e3]
                · simp -dsimp -implicitDefEqProofs (maxSteps := 1000000) only [go_sem, ↓reduceIte, Nat.reduceAdd, Nat.reduceSub, Nat.reduceMul, Nat.reduceLT, Nat.reduceLeDiff, Nat.reduceEqDiff, Nat.reduceBEq, Nat.reduceBNe, Int.reduceToNat, Int.reduceLT, Int.reduceLE, Int.reduceNeg, reduceCtorEq, Int.reduceEq, Int.reduceNe]
                  exact renL_F (by simp -dsimp -implicitDefEqProofs (maxSteps := 1000000) only [go_sem, ↓reduceIte, Nat.reduceAdd, Nat.reduceSub, Nat.reduceMul, Nat.reduceLT, Nat.reduceLeDiff, Nat.reduceEqDiff, Nat.reduceBEq, Nat.reduceBNe, Int.reduceToNat, Int.reduceLT, Int.reduceLE, Int.reduceNeg, reduceCtorEq, Int.reduceEq, Int.reduceNe])
        · simp -dsimp -implicitDefEqProofs (maxSteps := 1000000) only [go_sem, ↓reduceIte, Nat.reduceAdd, Nat.reduceSub, Nat.reduceMul, Nat.reduceLT, Nat.reduceLeDiff, Nat.reduceEqDiff, Nat.reduceBEq, Nat.reduceBNe, Int.reduceToNat, Int.reduceLT, Int.reduceLE, Int.reduceNeg, reduceCtorEq, Int.reduceEq, Int.reduceNe, h0]
          have hrs : r.ss.length ≤ 2000 := by omega
          have e0 : wr ((total (rows.take i) : Int) + (r.ss.length : Int)) = ((total (rows.take (i + 1)) : Nat) : Int) := by
            rw [total_take rows i hlt, ← hr, wr_in] <;> omega
          refine ⟨{j : Nat // j ≤ r.ss.length ∧ ∀ k, k < j → inCode (r.ss.getD k (0, 0)).1 = true ∧ inCoord (r.ss.getD k (0, 0)).2 = true}, fun j => ⟨95, tl [(1, .ptr 0 0 0), (3, I (total (rows.take i))), (5, .ptr 1 0 0), (9, Tbl rows), (10, I rows.length), (11, I i), (66, Sets r.ss), (67, I r.ss.length), (68, I j.1)], [(0, ⟨1, [[Tbl rows]]⟩), (1, ⟨4, [rowC r]⟩)], 2, .nil⟩, fun j => r.ss.length - j.1,
            ⟨⟨0, by omega, by intro j h; omega⟩, Le.tl (Ls := []) (y := none) [] ?_ ?_ (by simp) (by simp [sg]) trivial⟩, fun j => ?_⟩
          · simp -dsimp -implicitDefEqProofs (maxSteps := 1000000) only [go_sem, ↓reduceIte, Nat.reduceAdd, Nat.reduceSub, Nat.reduceMul, Nat.reduceLT, Nat.reduceLeDiff, Nat.reduceEqDiff, Nat.reduceBEq, Nat.reduceBNe, Int.reduceToNat, Int.reduceLT, Int.reduceLE, Int.reduceNeg, reduceCtorEq, Int.reduceEq, Int.reduceNe, List.length_map]
          · simp -dsimp -implicitDefEqProofs (maxSteps := 1000000) only [go_sem, ↓reduceIte, Nat.reduceAdd, Nat.reduceSub, Nat.reduceMul, Nat.reduceLT, Nat.reduceLeDiff, Nat.reduceEqDiff, Nat.reduceBEq, Nat.reduceBNe, Int.reduceToNat, Int.reduceLT, Int.reduceLE, Int.reduceNeg, reduceCtorEq, Int.reduceEq, Int.reduceNe]
            exact ⟨renL_F (by simp -dsimp -implicitDefEqProofs (maxSteps := 1000000) only [go_sem, ↓reduceIte, Nat.reduceAdd, Nat.reduceSub, Nat.reduceMul, Nat.reduceLT, Nat.reduceLeDiff, Nat.reduceEqDiff, Nat.reduceBEq, Nat.reduceBNe, Int.reduceToNat, Int.reduceLT, Int.reduceLE, Int.reduceNeg, reduceCtorEq, Int.reduceEq, Int.reduceNe]), renL_F (by simp -dsimp -implicitDefEqProofs (maxSteps := 1000000) only [go_sem, ↓reduceIte, Nat.reduceAdd, Nat.reduceSub, Nat.reduceMul, Nat.reduceLT, Nat.reduceLeDiff, Nat.reduceEqDiff, Nat.reduceBEq, Nat.reduceBNe, Int.reduceToNat, Int.reduceLT, Int.reduceLE, Int.reduceNeg, reduceCtorEq, Int.reduceEq, Int.reduceNe])⟩
          · obtain ⟨j, hj, hal2⟩ := j
            simp -dsimp -implicitDefEqProofs (maxSteps := 1000000) only [go_sem, ↓reduceIte, Nat.reduceAdd, Nat.reduceSub, Nat.reduceMul, Nat.reduceLT, Nat.reduceLeDiff, Nat.reduceEqDiff, Nat.reduceBEq, Nat.reduceBNe, Int.reduceToNat, Int.reduceLT, Int.reduceLE, Int.reduceNeg, reduceCtorEq, Int.reduceEq, Int.reduceNe, List.length_map]
            refine ⟨fun hh => ?_, fun hh => ?_⟩
            · have hlt2 : j < r.ss.length := by omega
              have e2 : wr ((j : Int) + 1) = ((j + 1 : Nat) : Int) := by rw [wr_in] <;> omega
              simp -dsimp -implicitDefEqProofs (maxSteps := 1000000) only [go_sem, ↓reduceIte, Nat.reduceAdd, Nat.reduceSub, Nat.reduceMul, Nat.reduceLT, Nat.reduceLeDiff, Nat.reduceEqDiff, Nat.reduceBEq, Nat.reduceBNe, Int.reduceToNat, Int.reduceLT, Int.reduceLE, Int.reduceNeg, reduceCtorEq, Int.reduceEq, Int.reduceNe, List.getElem?_map, Int.toNat_natCast, Int.natCast_nonneg, getS hlt2]
              refine AtFn.pure0 (code36 _) ?_
              simp -dsimp -implicitDefEqProofs (maxSteps := 1000000) only [go_sem, ↓reduceIte, Nat.reduceAdd, Nat.reduceSub, Nat.reduceMul, Nat.reduceLT, Nat.reduceLeDiff, Nat.reduceEqDiff, Nat.reduceBEq, Nat.reduceBNe, Int.reduceToNat, Int.reduceLT, Int.reduceLE, Int.reduceNeg, reduceCtorEq, Int.reduceEq, Int.reduceNe]
              have hmem := List.mem_of_getElem? (getS hlt2)
              cases d1 : inCode (r.ss.getD j (0, 0)).1
              · simp -dsimp -implicitDefEqProofs (maxSteps := 1000000) only [go_sem, ↓reduceIte, Nat.reduceAdd, Nat.reduceSub, Nat.reduceMul, Nat.reduceLT, Nat.reduceLeDiff, Nat.reduceEqDiff, Nat.reduceBEq, Nat.reduceBNe, Int.reduceToNat, Int.reduceLT, Int.reduceLE, Int.reduceNeg, reduceCtorEq, Int.reduceEq, Int.reduceNe]
                refine hbad ?_
                have : (r.ss.all fun s => inCode s.1) = false := by rw [List.all_eq_false]; exact ⟨_, hmem, by rw [d1]; simp⟩
                simp only [okRow, this, Bool.and_false]
              · simp -dsimp -implicitDefEqProofs (maxSteps := 1000000) only [go_sem, ↓reduceIte, Nat.reduceAdd, Nat.reduceSub, Nat.reduceMul, Nat.reduceLT, Nat.reduceLeDiff, Nat.reduceEqDiff, Nat.reduceBEq, Nat.reduceBNe, Int.reduceToNat, Int.reduceLT, Int.reduceLE, Int.reduceNeg, reduceCtorEq, Int.reduceEq, Int.reduceNe]
                have hk0 : inCoord (r.ss.getD j (0, 0)).2 = false → Bo false = Bo (validT rows) := fun hb => by
                  refine hbad ?_
                  have : (r.ss.all fun s => inCoord s.2) = false := by rw [List.all_eq_false]; exact ⟨_, hmem, by rw [hb]; simp⟩
                  simp only [okRow, okSets, this, Bool.and_false, Bool.false_and]
                refine ⟨fun h6 => ?_, fun h6 => ⟨fun h7 => ?_, fun h7 => ?_⟩⟩
                · exact hk0 (by simp only [inCoord, Bool.and_eq_false_iff, decide_eq_false_iff_not]; omega)
                · exact hk0 (by simp only [inCoord, Bool.and_eq_false_iff, decide_eq_false_iff_not]; omega)
                · have hk1 : inCoord (r.ss.getD j (0, 0)).2 = true := by simp only [inCoord, Bool.and_eq_true, decide_eq_true_eq]; omega
                  refine ⟨⟨j + 1, by omega, fun k hk => ?_⟩, by show r.ss.length - (j + 1) < r.ss.length - j; omega, Le.tl (Ls := []) (y := none) [] ?_ ?_ (by simp) (by simp [sg]) trivial⟩
                  · by_cases hkj : k = j
                    · subst hkj; exact ⟨d1, hk1⟩
                    · exact hal2 k (by omega)
                  · simp -dsimp -implicitDefEqProofs (maxSteps := 1000000) only [go_sem, ↓reduceIte, Nat.reduceAdd, Nat.reduceSub, Nat.reduceMul, Nat.reduceLT, Nat.reduceLeDiff, Nat.reduceEqDiff, Nat.reduceBEq, Nat.reduceBNe, Int.reduceToNat, Int.reduceLT, Int.reduceLE, Int.reduceNeg, reduceCtorEq, Int.reduceEq, Int.reduceNe, e2]
                  · simp -dsimp -implicitDefEqProofs (maxSteps := 1000000) only [go_sem, ↓reduceIte, Nat.reduceAdd, Nat.reduceSub, Nat.reduceMul, Nat.reduceLT, Nat.reduceLeDiff, Nat.reduceEqDiff, Nat.reduceBEq, Nat.reduceBNe, Int.reduceToNat, Int.reduceLT, Int.reduceLE, Int.reduceNeg, reduceCtorEq, Int.reduceEq, Int.reduceNe]
                    exact ⟨renL_F (by simp -dsimp -implicitDefEqProofs (maxSteps := 1000000) only [go_sem, ↓reduceIte, Nat.reduceAdd, Nat.reduceSub, Nat.reduceMul, Nat.reduceLT, Nat.reduceLeDiff, Nat.reduceEqDiff, Nat.reduceBEq, Nat.reduceBNe, Int.reduceToNat, Int.reduceLT, Int.reduceLE, Int.reduceNeg, reduceCtorEq, Int.reduceEq, Int.reduceNe]), renL_F (by simp -dsimp -implicitDefEqProofs (maxSteps := 1000000) only [go_sem, ↓reduceIte, Nat.reduceAdd, Nat.reduceSub, Nat.reduceMul, Nat.reduceLT, Nat.reduceLeDiff, Nat.reduceEqDiff, Nat.reduceBEq, Nat.reduceBNe, Int.reduceToNat, Int.reduceLT, Int.reduceLE, Int.reduceNeg, reduceCtorEq, Int.reduceEq, Int.reduceNe])⟩
            · have hj' : j = r.ss.length := by omega
              subst hj'
              have ga : (r.ss.all fun s => inCode s.1) = true := by
                rw [List.all_eq_true]
                intro s hsm
                obtain ⟨k, hk⟩ := List.getElem?_of_mem hsm
                have hk' := (List.getElem?_eq_some_iff.1 hk).1
                have := (hal2 k hk').1
                rw [getS hk'] at hk; cases hk; exact this
              have gb : (r.ss.all fun s => inCoord s.2) = true := by
                rw [List.all_eq_true]
                intro s hsm
                obtain ⟨k, hk⟩ := List.getElem?_of_mem hsm
                have hk' := (List.getElem?_eq_some_iff.1 hk).1
                have := (hal2 k hk').2
                rw [getS hk'] at hk; cases hk; exact this
              have gc : decide (r.ss.length ≤ 2000) = true := by rw [decide_eq_true_eq]; omega
              have hok : okRow r = true := by simp only [okRow, okSets, c1, c2, c3, ga, gb, gc, Bool.and_self]
              have e3 : wr ((i : Int) + 1) = ((i + 1 : Nat) : Int) := by rw [wr_in] <;> omega
              have ht2 : total (rows.take (i + 1)) ≤ 2000 * (i + 1) := by rw [total_take rows i hlt, ← hr]; omega
              simp -dsimp -implicitDefEqProofs (maxSteps := 1000000) only [go_sem, ↓reduceIte, Nat.reduceAdd, Nat.reduceSub, Nat.reduceMul, Nat.reduceLT, Nat.reduceLeDiff, Nat.reduceEqDiff, Nat.reduceBEq, Nat.reduceBNe, Int.reduceToNat, Int.reduceLT, Int.reduceLE, Int.reduceNeg, reduceCtorEq, Int.reduceEq, Int.reduceNe, List.length_map, e0]
              refine ⟨⟨i + 1, by omega, ht2, fun j hj => ?_⟩, by show rows.length - (i + 1) < rows.length - i; omega, Le.tl (Ls := []) (y := none) [] ?_ ?_ (by simp) (by simp [sg]) trivial⟩
              · by_cases hji : j = i
                · subst hji; exact ⟨hr ▸ hok, fun h1 => absurd (show 0 < (_ : Int) by omega) h0⟩
                · exact hall j (by omega)
              · simp -dsimp -implicitDefEqProofs (maxSteps := 1000000) only [go_sem, ↓reduceIte, Nat.reduceAdd, Nat.reduceSub, Nat.reduceMul, Nat.reduceLT, Nat.reduceLeDiff, Nat.reduceEqDiff, Nat.reduceBEq, Nat.reduceBNe, Int.reduceToNat, Int.reduceLT, Int.reduceLE, Int.reduceNeg, reduceCtorEq, Int.reduceEq, Int.reduceNe, e3]
              · simp -dsimp -implicitDefEqProofs (maxSteps := 1000000) only [go_sem, ↓reduceIte, Nat.reduceAdd, Nat.reduceSub, Nat.reduceMul, Nat.reduceLT, Nat.reduceLeDiff, Nat.reduceEqDiff, Nat.reduceBEq, Nat.reduceBNe, Int.reduceToNat, Int.reduceLT, Int.reduceLE, Int.reduceNeg, reduceCtorEq, Int.reduceEq, Int.reduceNe]
                exact renL_F (by simp -dsimp -implicitDefEqProofs (maxSteps := 1000000) only [go_sem, ↓reduceIte, Nat.reduceAdd, Nat.reduceSub, Nat.reduceMul, Nat.reduceLT, Nat.reduceLeDiff, Nat.reduceEqDiff, Nat.reduceBEq, Nat.reduceBNe, Int.reduceToNat, Int.reduceLT, Int.reduceLE, Int.reduceNeg, reduceCtorEq, Int.reduceEq, Int.reduceNe])
    · have hi' : i = rows.length := by omega
      subst hi'
      have ha : rows.all okRow = true := by
        rw [List.all_eq_true]
        intro r hr
        obtain ⟨j, hj⟩ := List.getElem?_of_mem hr
        have hj' := (List.getElem?_eq_some_iff.1 hj).1
        have := (hall j hj').1
        rw [getT hj'] at hj; cases hj; exact this
      have hr : rise (rows.map toRu) = true := by
        simp only [rise, decide_eq_true_eq, List.length_map]
        intro j hj h1
        have := (hall j hj).2 h1
        rw [getTR hj, getTR (by omega)]
        exact this
      rw [List.take_length]
      have e : decide ((total rows : Int) ≤ 20000) = decide (total rows ≤ 20000) := by congr 1; simp; omega
      simp only [validT, ha, hr, Bool.and_true, Bool.true_and, e]
end

section
set_option maxRecDepth 20000
attribute [local go_sem] clIntsL clRusL clSets clRows clTbl clSetsT'
/-- A line by a table, from p on: what is out, and the error. -/
def execL (rows : List Ro4) : List Int → Int → List (Int × Int) → List (Int × Int) × Int
  | [], p, out => (out ++ [(p, 0)], 0)
  | c :: q, p, out =>
    match rowOf rows p c with
    | some r => if (out ++ r.ss).length ≥ 2000 then ([], 3) else execL rows q r.la (out ++ r.ss)
    | none => if (out ++ [(p, 0)]).length ≥ 2000 then ([], 3) else execL rows q c (out ++ [(p, 0)])
def execF (rows : List Ro4) (line : List Int) : List (Int × Int) × Int :=
  if validT rows && okL line then (match line with | [] => ([], 0) | p :: q => execL rows q p []) else ([], 2)
def execRaw (rows : List Ro4) (line : List Int) : AV :=
  if validT rows && okL line then (match line with | [] => .t [nilS, I 0] | p :: q => if (execL rows q p []).2 = 0 then .t [Sets (execL rows q p []).1, I 0] else .t [nilS, I (execL rows q p []).2]) else .t [nilS, I 2]
theorem execL_err (rows : List Ro4) : ∀ (q : List Int) (p : Int) (out : List (Int × Int)), (execL rows q p out).2 = 0 ∨ execL rows q p out = ([], 3)
  | [], p, out => .inl rfl
  | c :: q, p, out => by
    simp only [execL]
    split
    · split
      · exact .inr rfl
      · exact execL_err rows q _ _
    · split
      · exact .inr rfl
      · exact execL_err rows q _ _
theorem execSub (rows : List Ro4) (line : List Int) : Sub (execRaw rows line) (.t [Sets (execF rows line).1, I (execF rows line).2]) := by
  unfold execRaw execF
  split
  · cases line with
    | nil => exact subNil _
    | cons p q =>
      simp only
      split
      · rename_i h; rw [h]; exact .refl _
      · rename_i h
        have := (execL_err rows q p []).resolve_left h
        rw [this]
        exact subNil _
  · exact subNil _
theorem clExecRaw (rows : List Ro4) (line : List Int) : Cl (execRaw rows line) := by
  unfold execRaw
  split
  · cases line with
    | nil => simp [Cl_t, Cl_v]
    | cons p q =>
      simp only
      split
      · refine .t fun s hs => ?_
        simp at hs
        rcases hs with rfl | rfl
        · exact .ro (clSs _)
        · exact .v _
      · simp [Cl_t, Cl_v]
  · simp [Cl_t, Cl_v]
theorem validT_rise {rows : List Ro4} (h : validT rows = true) : rise (rows.map toRu) = true ∧ rows.all okRow = true := by
  simp only [validT, Bool.and_eq_true] at h
  exact ⟨h.2, h.1.1⟩
theorem rowOf_rule (rows : List Ro4) (a b : Int) : ruleOf (rows.map toRu) a b = (rowOf rows a b).map toRu := by
  unfold ruleOf rowOf
  rw [List.find?_map]
  rfl
theorem rowOf_idx {rows : List Ro4} {a b : Int} {r : Ro4} (hr : rise (rows.map toRu) = true) (h : rowOf rows a b = some r) : rows[(rows.map toRu).findIdx fun r => decide (0 ≤ cmpP r (tg a b))]? = some r ∧ ((rows.map toRu).findIdx fun r => decide (0 ≤ cmpP r (tg a b))) < rows.length := by
  have h1 : ruleOf (rows.map toRu) a b = some (toRu r) := by rw [rowOf_rule, h]; rfl
  obtain ⟨g1, g2⟩ := ruleOf_idx hr h1
  rw [List.length_map] at g2
  refine ⟨?_, g2⟩
  unfold rowOf at h
  rw [List.find?_eq_some_iff_getElem] at h
  obtain ⟨hh, i, hi, rfl, hn⟩ := h
  simp only [Bool.and_eq_true, decide_eq_true_eq] at hh
  obtain ⟨lo, hlo⟩ : ∃ lo, lo = (rows.map toRu).findIdx fun r => decide (0 ≤ cmpP r (tg a b)) := ⟨_, rfl⟩
  rw [← hlo] at g1 g2 ⊢
  have hgl : toRu rows[lo] = toRu rows[i] := by
    rw [List.getElem?_map, List.getElem?_eq_getElem g2] at g1
    simpa using g1
  have hf : rows[lo].f = rows[i].f := by have h9 := congrArg Ru.f hgl; exact h9
  have hn2 : rows[lo].n = rows[i].n := by have h9 := congrArg Ru.n hgl; exact h9
  have he : lo = i := by
    have hnlt : ¬ lo < i := fun h => by
      have := hn lo h
      simp [hf, hn2, hh] at this
    by_cases hlt : i < lo
    · have := rise_lt hr lo i hlt (by rw [List.length_map]; exact g2)
      rw [getTR g2, getTR hi, cmpP_neg] at this
      simp [List.getD, g2, hi, toRu] at this
      omega
    · omega
  rw [he]
  exact List.getElem?_eq_getElem hi
theorem subRow (a b : Int) : Sub (.g [I a, I b, nilS, I 0]) (RowA ⟨a, b, [], 0⟩) := by
  intro X β w u hr
  cases hr with
  | g hl hR =>
    refine .g hl fun k s u hs hu => ?_
    match k with
    | 0 => simp at hs; subst hs; exact hR 0 _ u rfl hu
    | 1 => simp at hs; subst hs; exact hR 1 _ u rfl hu
    | 2 => simp at hs; subst hs; exact Sub.nil 2 _ _ _ _ (hR 2 _ u rfl hu)
    | 3 => simp at hs; subst hs; exact hR 3 _ u rfl hu
    | k + 4 => simp at hs
theorem appSs (a b : List (Int × Int)) : Ss a ++ Ss b = Ss (a ++ b) := by simp [Ss]
theorem oneSs (d : List (Int × Int)) : ∀ c ∈ Ss d, ∀ x ∈ c, oneA x = true := by
  intro c hc x hx
  obtain ⟨y, _, rfl⟩ := List.mem_map.1 hc
  simp at hx
  rcases hx with rfl | rfl <;> rfl
theorem exec27 (rows : List Ro4) (line : List Int) (hl : rows.length < 2 ^ 40) (hl2 : line.length < 2 ^ 62) : PFun Try.prog 27 [TA rows, Ints line] (execRaw rows line) := by
  refine PFun.intro 400 mixed Try.func27 (by kernel_rfl) rfl (clExecRaw rows line) (Nat.le_of_ble_eq_true rfl) ?_; rw [Try.ntmps27, Try.results27]
  simp -dsimp -implicitDefEqProofs (maxSteps := 1000000) only [go_sem, ↓reduceIte, Nat.reduceAdd, Nat.reduceSub, Nat.reduceMul, Nat.reduceLT, Nat.reduceLeDiff, Nat.reduceEqDiff, Nat.reduceBEq, Nat.reduceBNe, Int.reduceToNat, Int.reduceLT, Int.reduceLE, Int.reduceNeg, reduceCtorEq, Int.reduceEq, Int.reduceNe]
  refine AtFn.pure0 (table48 rows (by omega)) ?_
  simp -dsimp -implicitDefEqProofs (maxSteps := 1000000) only [go_sem, ↓reduceIte, Nat.reduceAdd, Nat.reduceSub, Nat.reduceMul, Nat.reduceLT, Nat.reduceLeDiff, Nat.reduceEqDiff, Nat.reduceBEq, Nat.reduceBNe, Int.reduceToNat, Int.reduceLT, Int.reduceLE, Int.reduceNeg, reduceCtorEq, Int.reduceEq, Int.reduceNe]
  cases hv : validT rows
  · simp -dsimp -implicitDefEqProofs (maxSteps := 1000000) only [go_sem, ↓reduceIte, Nat.reduceAdd, Nat.reduceSub, Nat.reduceMul, Nat.reduceLT, Nat.reduceLeDiff, Nat.reduceEqDiff, Nat.reduceBEq, Nat.reduceBNe, Int.reduceToNat, Int.reduceLT, Int.reduceLE, Int.reduceNeg, reduceCtorEq, Int.reduceEq, Int.reduceNe]
    simp only [execRaw, hv, Bool.false_and, Bool.false_eq_true, if_false]
  · simp -dsimp -implicitDefEqProofs (maxSteps := 1000000) only [go_sem, ↓reduceIte, Nat.reduceAdd, Nat.reduceSub, Nat.reduceMul, Nat.reduceLT, Nat.reduceLeDiff, Nat.reduceEqDiff, Nat.reduceBEq, Nat.reduceBNe, Int.reduceToNat, Int.reduceLT, Int.reduceLE, Int.reduceNeg, reduceCtorEq, Int.reduceEq, Int.reduceNe]
    refine AtFn.pure0 (isLine line hl2) ?_
    simp -dsimp -implicitDefEqProofs (maxSteps := 1000000) only [go_sem, ↓reduceIte, Nat.reduceAdd, Nat.reduceSub, Nat.reduceMul, Nat.reduceLT, Nat.reduceLeDiff, Nat.reduceEqDiff, Nat.reduceBEq, Nat.reduceBNe, Int.reduceToNat, Int.reduceLT, Int.reduceLE, Int.reduceNeg, reduceCtorEq, Int.reduceEq, Int.reduceNe]
    cases ho : okL line
    · simp -dsimp -implicitDefEqProofs (maxSteps := 1000000) only [go_sem, ↓reduceIte, Nat.reduceAdd, Nat.reduceSub, Nat.reduceMul, Nat.reduceLT, Nat.reduceLeDiff, Nat.reduceEqDiff, Nat.reduceBEq, Nat.reduceBNe, Int.reduceToNat, Int.reduceLT, Int.reduceLE, Int.reduceNeg, reduceCtorEq, Int.reduceEq, Int.reduceNe]
      simp only [execRaw, ho, Bool.and_false, Bool.false_eq_true, if_false]
    · obtain ⟨hr, hall⟩ := validT_rise hv
      simp -dsimp -implicitDefEqProofs (maxSteps := 1000000) only [go_sem, ↓reduceIte, Nat.reduceAdd, Nat.reduceSub, Nat.reduceMul, Nat.reduceLT, Nat.reduceLeDiff, Nat.reduceEqDiff, Nat.reduceBEq, Nat.reduceBNe, Int.reduceToNat, Int.reduceLT, Int.reduceLE, Int.reduceNeg, reduceCtorEq, Int.reduceEq, Int.reduceNe, List.length_map]
      cases line with
      | nil =>
        simp -dsimp -implicitDefEqProofs (maxSteps := 1000000) only [go_sem, ↓reduceIte, Nat.reduceAdd, Nat.reduceSub, Nat.reduceMul, Nat.reduceLT, Nat.reduceLeDiff, Nat.reduceEqDiff, Nat.reduceBEq, Nat.reduceBNe, Int.reduceToNat, Int.reduceLT, Int.reduceLE, Int.reduceNeg, reduceCtorEq, Int.reduceEq, Int.reduceNe]
        intro _
        simp only [execRaw, hv, ho, Bool.and_self, if_true]
      | cons p q =>
        have hq5 : q.length + 1 ≤ 500 := by
          simp only [okL, Bool.and_eq_true, decide_eq_true_eq, List.length_cons] at ho
          exact ho.1
        have hne : ¬ ((q.length + 1 : Nat) : Int) = 0 := by omega
        have e0 : (0 : Int) < ((q.length + 1 : Nat) : Int) := by omega
        have hraw : execRaw rows (p :: q) = if (execL rows q p []).2 = 0 then .t [Sets (execL rows q p []).1, I 0] else .t [nilS, I (execL rows q p []).2] := by
          simp only [execRaw, hv, ho, Bool.and_self, if_true]
        rw [hraw]
        obtain ⟨res, hres⟩ : ∃ res, res = execL rows q p [] := ⟨_, rfl⟩
        rw [← hres]
        simp -dsimp -implicitDefEqProofs (maxSteps := 1000000) only [go_sem, ↓reduceIte, Nat.reduceAdd, Nat.reduceSub, Nat.reduceMul, Nat.reduceLT, Nat.reduceLeDiff, Nat.reduceEqDiff, Nat.reduceBEq, Nat.reduceBNe, Int.reduceToNat, Int.reduceLT, Int.reduceLE, Int.reduceNeg, reduceCtorEq, Int.reduceEq, Int.reduceNe, List.length_cons, hne, true_implies, List.length_map, e0, takeMap, Nat.le_refl, Nat.reduceLeDiff]
        refine ⟨{t : Nat × Int × List (Int × Int) // t.1 ≤ q.length ∧ t.2.2.length < 2000 ∧ res = execL rows (q.drop t.1) t.2.1 t.2.2}, fun t => ⟨72, tl [(2, .ptr 0 0 0), (6, .sl 1 0 t.1.2.2.length), (7, I t.1.2.1), (27, Ints q), (28, I q.length), (29, I t.1.1)], [(0, ⟨1, [[Tbl rows]]⟩), (1, ⟨2, Ss t.1.2.2⟩)], 2, .nil⟩, fun t => q.length - t.1.1,
          ⟨⟨(0, p, []), by simp, by simp, by simpa using hres⟩, Le.tl0 (Ls := []) (y := none) [(1, 99)] ?_ ?_ (by simp) (by simp [sg]) trivial⟩, fun t => ?_⟩
        · simp -dsimp -implicitDefEqProofs (maxSteps := 1000000) only [go_sem, ↓reduceIte, Nat.reduceAdd, Nat.reduceSub, Nat.reduceMul, Nat.reduceLT, Nat.reduceLeDiff, Nat.reduceEqDiff, Nat.reduceBEq, Nat.reduceBNe, Int.reduceToNat, Int.reduceLT, Int.reduceLE, Int.reduceNeg, reduceCtorEq, Int.reduceEq, Int.reduceNe]
        · simp -dsimp -implicitDefEqProofs (maxSteps := 1000000) only [go_sem, ↓reduceIte, Nat.reduceAdd, Nat.reduceSub, Nat.reduceMul, Nat.reduceLT, Nat.reduceLeDiff, Nat.reduceEqDiff, Nat.reduceBEq, Nat.reduceBNe, Int.reduceToNat, Int.reduceLT, Int.reduceLE, Int.reduceNeg, reduceCtorEq, Int.reduceEq, Int.reduceNe]
          exact renL_F (by simp -dsimp -implicitDefEqProofs (maxSteps := 1000000) only [go_sem, ↓reduceIte, Nat.reduceAdd, Nat.reduceSub, Nat.reduceMul, Nat.reduceLT, Nat.reduceLeDiff, Nat.reduceEqDiff, Nat.reduceBEq, Nat.reduceBNe, Int.reduceToNat, Int.reduceLT, Int.reduceLE, Int.reduceNeg, reduceCtorEq, Int.reduceEq, Int.reduceNe])
        · obtain ⟨⟨i, p, out⟩, hi, hout, hall2⟩ := t
          simp only at hi hout hall2
          simp -dsimp -implicitDefEqProofs (maxSteps := 1000000) only [go_sem, ↓reduceIte, Nat.reduceAdd, Nat.reduceSub, Nat.reduceMul, Nat.reduceLT, Nat.reduceLeDiff, Nat.reduceEqDiff, Nat.reduceBEq, Nat.reduceBNe, Int.reduceToNat, Int.reduceLT, Int.reduceLE, Int.reduceNeg, reduceCtorEq, Int.reduceEq, Int.reduceNe, List.length_map]
          refine ⟨fun h => ?_, fun h => ?_⟩
          · have hlt : i < q.length := by omega
            have hdr : q.drop i = q.getD i 0 :: q.drop (i + 1) := by
              have e : q.getD i 0 = q[i] := by simp [List.getD, hlt]
              rw [e]
              exact List.drop_eq_getElem_cons hlt
            rw [hdr] at hall2
            simp only [execL] at hall2
            have e1 : wr ((i : Int) + 1) = ((i + 1 : Nat) : Int) := by rw [wr_in] <;> omega
            simp -dsimp -implicitDefEqProofs (maxSteps := 1000000) only [go_sem, ↓reduceIte, Nat.reduceAdd, Nat.reduceSub, Nat.reduceMul, Nat.reduceLT, Nat.reduceLeDiff, Nat.reduceEqDiff, Nat.reduceBEq, Nat.reduceBNe, Int.reduceToNat, Int.reduceLT, Int.reduceLE, Int.reduceNeg, reduceCtorEq, Int.reduceEq, Int.reduceNe, List.getElem?_map, Int.toNat_natCast, Int.natCast_nonneg, getI hlt]
            obtain ⟨c, hc⟩ : ∃ c, c = q.getD i 0 := ⟨_, rfl⟩
            rw [← hc] at hall2 ⊢
            refine AtFn.pure0 ((search49 rows p c hl hr).sub (.cons (.refl _) (.cons (subRow p c) (.cons (.refl _) .nil)))) ?_
            rw [rowOf_rule, Option.isSome_map]
            have hol : out.length ≤ 1099511627775 := by omega
            simp -dsimp -implicitDefEqProofs (maxSteps := 1000000) only [go_sem, ↓reduceIte, Nat.reduceAdd, Nat.reduceSub, Nat.reduceMul, Nat.reduceLT, Nat.reduceLeDiff, Nat.reduceEqDiff, Nat.reduceBEq, Nat.reduceBNe, Int.reduceToNat, Int.reduceLT, Int.reduceLE, Int.reduceNeg, reduceCtorEq, Int.reduceEq, Int.reduceNe]
            cases hf : rowOf rows p c with
            | none =>
              rw [hf] at hall2
              simp only at hall2
              simp -dsimp -implicitDefEqProofs (maxSteps := 1000000) only [go_sem, ↓reduceIte, Nat.reduceAdd, Nat.reduceSub, Nat.reduceMul, Nat.reduceLT, Nat.reduceLeDiff, Nat.reduceEqDiff, Nat.reduceBEq, Nat.reduceBNe, Int.reduceToNat, Int.reduceLT, Int.reduceLE, Int.reduceNeg, reduceCtorEq, Int.reduceEq, Int.reduceNe, takeSs, Nat.zero_add, Nat.le_refl, hol, List.length_map, snocSs]
              refine ⟨fun h5 => ?_, fun h5 => ?_⟩
              · rw [if_pos (by omega)] at hall2
                rw [hall2, if_neg (by decide)]
              · rw [if_neg (by omega)] at hall2
                refine ⟨⟨(i + 1, c, out ++ [(p, 0)]), by show i + 1 ≤ q.length; omega, by show (out ++ [(p, 0)]).length < 2000; omega, hall2⟩, by show q.length - (i + 1) < q.length - i; omega, Le.tl (Ls := []) (y := none) [(1, 3)] ?_ ?_ (by simp) (by simp [sg]) trivial⟩
                · simp -dsimp -implicitDefEqProofs (maxSteps := 1000000) only [go_sem, ↓reduceIte, Nat.reduceAdd, Nat.reduceSub, Nat.reduceMul, Nat.reduceLT, Nat.reduceLeDiff, Nat.reduceEqDiff, Nat.reduceBEq, Nat.reduceBNe, Int.reduceToNat, Int.reduceLT, Int.reduceLE, Int.reduceNeg, reduceCtorEq, Int.reduceEq, Int.reduceNe, e1]
                · simp -dsimp -implicitDefEqProofs (maxSteps := 1000000) only [go_sem, ↓reduceIte, Nat.reduceAdd, Nat.reduceSub, Nat.reduceMul, Nat.reduceLT, Nat.reduceLeDiff, Nat.reduceEqDiff, Nat.reduceBEq, Nat.reduceBNe, Int.reduceToNat, Int.reduceLT, Int.reduceLE, Int.reduceNeg, reduceCtorEq, Int.reduceEq, Int.reduceNe]
                  exact ⟨renL_F (by simp -dsimp -implicitDefEqProofs (maxSteps := 1000000) only [go_sem, ↓reduceIte, Nat.reduceAdd, Nat.reduceSub, Nat.reduceMul, Nat.reduceLT, Nat.reduceLeDiff, Nat.reduceEqDiff, Nat.reduceBEq, Nat.reduceBNe, Int.reduceToNat, Int.reduceLT, Int.reduceLE, Int.reduceNeg, reduceCtorEq, Int.reduceEq, Int.reduceNe]), renL_ss rfl⟩
            | some r =>
              rw [hf] at hall2
              simp only at hall2
              obtain ⟨g1, g2⟩ := rowOf_idx hr hf
              have g3 : (((rows.map toRu).findIdx fun r => decide (0 ≤ cmpP r (tg p c)) : Nat) : Int) < (rows.length : Int) := by omega
              have hok := List.all_eq_true.1 hall r (List.mem_of_getElem? g1)
              have hrl : r.ss.length ≤ 2000 := by
                simp only [okRow, okSets, Bool.and_eq_true, decide_eq_true_eq] at hok
                exact hok.1.2.1
              have hol2 : out.length + r.ss.length ≤ 1099511627776 := by omega
              simp -dsimp -implicitDefEqProofs (maxSteps := 1000000) only [go_sem, ↓reduceIte, Nat.reduceAdd, Nat.reduceSub, Nat.reduceMul, Nat.reduceLT, Nat.reduceLeDiff, Nat.reduceEqDiff, Nat.reduceBEq, Nat.reduceBNe, Int.reduceToNat, Int.reduceLT, Int.reduceLE, Int.reduceNeg, reduceCtorEq, Int.reduceEq, Int.reduceNe, List.getElem?_map, Int.toNat_natCast, Int.natCast_nonneg, g1, g3, List.length_map, takeSs, Nat.zero_add, Nat.le_refl, hol2, appSs]
              refine ⟨oneSs r.ss, fun h5 => ?_, fun h5 => ?_⟩
              · rw [if_pos (by omega)] at hall2
                rw [hall2, if_neg (by decide)]
              · rw [if_neg (by omega)] at hall2
                refine ⟨⟨(i + 1, r.la, out ++ r.ss), by show i + 1 ≤ q.length; omega, by show (out ++ r.ss).length < 2000; omega, hall2⟩, by show q.length - (i + 1) < q.length - i; omega, Le.tl (Ls := []) (y := none) [(1, 2)] ?_ ?_ (by simp) (by simp [sg]) trivial⟩
                · simp -dsimp -implicitDefEqProofs (maxSteps := 1000000) only [go_sem, ↓reduceIte, Nat.reduceAdd, Nat.reduceSub, Nat.reduceMul, Nat.reduceLT, Nat.reduceLeDiff, Nat.reduceEqDiff, Nat.reduceBEq, Nat.reduceBNe, Int.reduceToNat, Int.reduceLT, Int.reduceLE, Int.reduceNeg, reduceCtorEq, Int.reduceEq, Int.reduceNe, e1]
                · simp -dsimp -implicitDefEqProofs (maxSteps := 1000000) only [go_sem, ↓reduceIte, Nat.reduceAdd, Nat.reduceSub, Nat.reduceMul, Nat.reduceLT, Nat.reduceLeDiff, Nat.reduceEqDiff, Nat.reduceBEq, Nat.reduceBNe, Int.reduceToNat, Int.reduceLT, Int.reduceLE, Int.reduceNeg, reduceCtorEq, Int.reduceEq, Int.reduceNe]
                  exact ⟨renL_F (by simp -dsimp -implicitDefEqProofs (maxSteps := 1000000) only [go_sem, ↓reduceIte, Nat.reduceAdd, Nat.reduceSub, Nat.reduceMul, Nat.reduceLT, Nat.reduceLeDiff, Nat.reduceEqDiff, Nat.reduceBEq, Nat.reduceBNe, Int.reduceToNat, Int.reduceLT, Int.reduceLE, Int.reduceNeg, reduceCtorEq, Int.reduceEq, Int.reduceNe]), renL_ss rfl⟩
          · have hi' : i = q.length := by omega
            subst hi'
            simp only [List.drop_length, execL] at hall2
            rw [takeSs, hall2, if_pos rfl]
            refine ⟨by omega, by simp; omega, ?_⟩
            rw [if_pos (by omega), snocSs]
end

section
set_option maxRecDepth 20000
attribute [local go_sem] clIntsL clRusL clSets clRows clTbl clSetsT'
abbrev q1 : List Ru := [⟨12, 108, 0, -5⟩, ⟨102, 105, 1, 12⟩]
abbrev q4 : List Ru := [⟨1, 2, 4, 3⟩]
abbrev q7 : List Ru := [⟨1, 2, 2, 3⟩, ⟨1, 3, 2, 2⟩]
theorem runC (l : List Ru) (line : List Int) (hl : l.length < 2 ^ 62) (hl2 : line.length < 2 ^ 62) (R : List (Int × Int)) (e : Int) (h : runF l line = (R, e)) : PFun Try.prog 19 [Rus l, Ints line] (.t [Sets R, I e]) := by
  have := PFun.res (run19 l line hl hl2) (runSub l line)
  rwa [h] at this
theorem runN (l : List Ru) (hl : l.length < 2 ^ 62) (R : List (Int × Int)) (e : Int) (h : runF l [] = (R, e)) : PFun Try.prog 19 [Rus l, nilS] (.t [Sets R, I e]) :=
  PFun.sub (runC l [] hl (by decide) R e h) (.cons (.refl _) (.cons (Sub.nil 1) .nil))
theorem run_1 : PFun Try.prog 19 [Rus q1, Ints [102, 105, 108]] (.t [Sets [(12, -5), (108, 0)], I 0]) := runC _ _ (by decide) (by decide) _ _ (by kernel_rfl)
theorem run_4 : PFun Try.prog 19 [Rus q4, Ints [1, 2]] (.t [Sets [(1, 0), (3, 0), (2, 0)], I 0]) := runC _ _ (by decide) (by decide) _ _ (by kernel_rfl)
theorem run_7 : PFun Try.prog 19 [Rus q7, nilS] (.t [Sets [], I 22]) := runN _ (by decide) _ _ (by kernel_rfl)
theorem run_0 : PFun Try.prog 19 [Rus [⟨300, 0, 0, 0⟩], nilS] (.t [Sets [], I 2]) := runN _ (by decide) _ _ (by kernel_rfl)
theorem ends_7 : PFun Try.prog 15 [Rus q7] (.t [.g [I 1, I 2], Bo false, I 0]) := by
  have h := ends15 q7 (by decide)
  have e : endR q7 = .t [.g [I 1, I 2], Bo false, I 0] := by kernel_rfl
  rwa [e] at h
theorem last_4 : PFun Try.prog 13 [Rus q4, I 1, I 2] (.t [I 2, I 0]) := by
  have h := last13 q4 1 2 (by decide)
  have e : lastR q4 1 2 = .t [I 2, I 0] := by kernel_rfl
  rwa [e] at h
theorem comp_1 : PFun Try.prog 24 [Rus q1] (.t [TA [⟨12, 108, [(12, -5)], 108⟩, ⟨102, 105, [], 12⟩], I 0]) := by
  have h := comp24 q1 (by decide)
  have e : compRaw q1 = .t [TA [⟨12, 108, [(12, -5)], 108⟩, ⟨102, 105, [], 12⟩], I 0] := by kernel_rfl
  rwa [e] at h
theorem exec_1 : PFun Try.prog 27 [TA [⟨12, 108, [(12, -5)], 108⟩, ⟨102, 105, [], 12⟩], Ints [102, 105, 108]] (.t [Sets [(12, -5), (108, 0)], I 0]) := by
  have h := exec27 [⟨12, 108, [(12, -5)], 108⟩, ⟨102, 105, [], 12⟩] [102, 105, 108] (by decide) (by decide)
  have e : execRaw [⟨12, 108, [(12, -5)], 108⟩, ⟨102, 105, [], 12⟩] [102, 105, 108] = .t [Sets [(12, -5), (108, 0)], I 0] := by kernel_rfl
  rwa [e] at h
theorem Sub.gs {l l' : List AV} (h : Subs l l') : Sub (.g l) (.g l') := by
  intro X β w u hr
  cases hr with
  | g hl hR =>
    refine .g (h.len.symm.trans hl) fun k s u hs hu => ?_
    obtain ⟨a, ha⟩ : ∃ a, l[k]? = some a := by
      have := (List.getElem?_eq_some_iff.1 hs).1
      exact ⟨_, List.getElem?_eq_getElem (by rw [h.len]; exact this)⟩
    exact h.get k a s ha hs _ _ _ _ (hR k a u ha hu)
theorem width_c : PFun Try.prog 29 [.g [I 1, Rus [⟨3, 9, 0, 0⟩], nilS], Sets [(3, -2)]] (.t [I 7, I 0]) := by
  have h := width29 1 [⟨3, 9, 0, 0⟩] [] [(3, -2)] (by decide) (by decide) (by decide)
  have e : widthF 1 [⟨3, 9, 0, 0⟩] [] [(3, -2)] = (7, 0) := by kernel_rfl
  rw [e] at h
  refine PFun.sub h (.cons ?_ (.cons (.refl _) .nil))
  exact Sub.gs (.cons (.refl _) (.cons (.refl _) (.cons (Sub.nil 4) .nil)))
theorem codes_4 : PFun Try.prog 22 [Rus q4, Ints [2, 1]] (.t [Ints [1, 2, 3], I 0]) := by
  have h := codes22 q4 [2, 1] (by decide) (by decide)
  have e : codesRaw q4 [2, 1] = .t [Ints [1, 2, 3], I 0] := by kernel_rfl
  rwa [e] at h
theorem valid_1 : PFun Try.prog 17 [Rus q1] (Bo true) := by
  have h := valid17 q1 (by decide)
  have e : validR q1 = true := by kernel_rfl
  rwa [e] at h
theorem sameTr (l : List (Int × Int)) (hl : l.length < 2 ^ 62) : PFun Try.prog 21 [Sets l, Sets l] (Bo true) := by
  have := sameS l l hl
  rwa [decide_eq_true rfl] at this
theorem eqA28 (d : Nat) (w : World) (x0 y0 x1 y1 : Int) :
    (Op.equalIn (d + 3) 28 (.agg #[.int .i64 x0, .int .i64 x1]) (.agg #[.int .i64 y0, .int .i64 y1])).run Try.prog w = .ok ((x0 == y0) && (x1 == y1)) w := by
  have e1 : ∀ (x y : Int), (Op.equalIn (d + 2) 3 (.int .i64 x) (.int .i64 y)).run Try.prog w = .ok (x == y) w := by intro x y; go_simp
  have p1 : ∀ (a b : Int), (part 3 #[.int .i64 a, .int .i64 b] (0 * 1)).run Try.prog w = .ok (.int .i64 a) w := by intro a b; go_simp
  have p2 : ∀ (a b : Int), (part 3 #[.int .i64 a, .int .i64 b] (1 * 1)).run Try.prog w = .ok (.int .i64 b) w := by intro a b; go_simp
  have hs : (sizeOf 3).run Try.prog w = .ok 1 w := by go_simp
  rw [Op.equalIn]
  simp only [Sem.run_bind, run_underlying Try.underlying28, Result.andThen_ok, hs]
  rw [Std.Legacy.Range.forIn_eq_forIn_range']
  have hr : List.range' 0 2 = [0, 1] := rfl
  simp only [Std.Legacy.Range.size, List.forIn_cons, List.forIn_nil, Nat.reduceSub, Nat.reduceAdd, Nat.reduceDiv, Nat.sub_zero, Nat.add_one_sub_one, Nat.div_one, hr, Sem.run_bind, p1, p2, Result.andThen_ok, e1]
  cases h1 : (x0 == y0) <;> cases h2 : (x1 == y1) <;> simp_all [Sem.run_bind, List.range'] 
theorem eqk28 : EqK Try.prog 28 2 := by
  refine EqK.of (by kernel_rfl) fun xs ys hx hy w => ?_
  match xs, ys, hx, hy with
  | [a, b], [c, d], _, _ =>
    have := eqA28 9997 w a c b d
    refine Eq.trans this ?_
    congr 1
    rw [Bool.eq_iff_iff]; simp
theorem eqk28' : EqK Try.prog 28 2 ↔ True := iff_true_intro eqk28
attribute [local go_sem] eqk28'
theorem awake : PFun Try.prog 12 [] (Bo true) := by
  refine PFun.intro 400 mixed Try.func12 (by kernel_rfl) rfl (by first | exact .v _ | (simp [Cl_v, Cl_t, Cl_g, Cl_fn, Cl_rp, Cl_ro]; done) | (simp [Cl_v, Cl_t, Cl_g, Cl_fn, Cl_rp, Cl_ro, or_imp, forall_and]; done) | (split <;> simp [Cl_v, Cl_t, Cl_g, Cl_fn, Cl_rp, Cl_ro])) (Nat.le_of_ble_eq_true rfl) ?_; rw [Try.ntmps12, Try.results12]
  simp -dsimp -implicitDefEqProofs (maxSteps := 1000000) only [go_sem, ↓reduceIte, Nat.reduceAdd, Nat.reduceSub, Nat.reduceMul, Nat.reduceLT, Nat.reduceLeDiff, Nat.reduceEqDiff, Nat.reduceBEq, Nat.reduceBNe, Int.reduceToNat, Int.reduceLT, Int.reduceLE, Int.reduceNeg, reduceCtorEq, Int.reduceEq, Int.reduceNe]
  refine AtFn.le ⟨183, tl [(1, Rus q1), (29, Rus q1), (30, Ints [102, 105, 108])], [], 2, .nil⟩ [Rus q1, Ints [102, 105, 108]] (Le.ftl (Ls := []) (y := none) [0, 1] [] (by simp -dsimp -implicitDefEqProofs (maxSteps := 1000000) only [go_sem, ↓reduceIte, Nat.reduceAdd, Nat.reduceSub, Nat.reduceMul, Nat.reduceLT, Nat.reduceLeDiff, Nat.reduceEqDiff, Nat.reduceBEq, Nat.reduceBNe, Int.reduceToNat, Int.reduceLT, Int.reduceLE, Int.reduceNeg, reduceCtorEq, Int.reduceEq, Int.reduceNe, fz]) (by simp -dsimp -implicitDefEqProofs (maxSteps := 1000000) only [go_sem, ↓reduceIte, Nat.reduceAdd, Nat.reduceSub, Nat.reduceMul, Nat.reduceLT, Nat.reduceLeDiff, Nat.reduceEqDiff, Nat.reduceBEq, Nat.reduceBNe, Int.reduceToNat, Int.reduceLT, Int.reduceLE, Int.reduceNeg, reduceCtorEq, Int.reduceEq, Int.reduceNe, fz, fzB]) (by simp) (by simp [sg]) trivial) (by intro fo xs ts h; cases h; exact ⟨by simp -dsimp -implicitDefEqProofs (maxSteps := 1000000) only [go_sem, ↓reduceIte, Nat.reduceAdd, Nat.reduceSub, Nat.reduceMul, Nat.reduceLT, Nat.reduceLeDiff, Nat.reduceEqDiff, Nat.reduceBEq, Nat.reduceBNe, Int.reduceToNat, Int.reduceLT, Int.reduceLE, Int.reduceNeg, reduceCtorEq, Int.reduceEq, Int.reduceNe], by simp -dsimp -implicitDefEqProofs (maxSteps := 1000000) only [go_sem, ↓reduceIte, Nat.reduceAdd, Nat.reduceSub, Nat.reduceMul, Nat.reduceLT, Nat.reduceLeDiff, Nat.reduceEqDiff, Nat.reduceBEq, Nat.reduceBNe, Int.reduceToNat, Int.reduceLT, Int.reduceLE, Int.reduceNeg, reduceCtorEq, Int.reduceEq, Int.reduceNe]⟩) ?_
  refine AtFn.pure0 run_1 ?_
  simp -dsimp -implicitDefEqProofs (maxSteps := 1000000) only [go_sem, ↓reduceIte, Nat.reduceAdd, Nat.reduceSub, Nat.reduceMul, Nat.reduceLT, Nat.reduceLeDiff, Nat.reduceEqDiff, Nat.reduceBEq, Nat.reduceBNe, Int.reduceToNat, Int.reduceLT, Int.reduceLE, Int.reduceNeg, reduceCtorEq, Int.reduceEq, Int.reduceNe]
  refine AtFn.le ⟨183, tl [(1, Rus q1), (2, Sets [(12, -5), (108, 0)]), (3, I 0), (4, Rus q4), (37, Rus q4), (38, Ints [1, 2])], [], 0, .nil⟩ [Rus q4, Ints [1, 2]] (Le.ftl (Ls := []) (y := none) [2, 3] [] (by simp -dsimp -implicitDefEqProofs (maxSteps := 1000000) only [go_sem, ↓reduceIte, Nat.reduceAdd, Nat.reduceSub, Nat.reduceMul, Nat.reduceLT, Nat.reduceLeDiff, Nat.reduceEqDiff, Nat.reduceBEq, Nat.reduceBNe, Int.reduceToNat, Int.reduceLT, Int.reduceLE, Int.reduceNeg, reduceCtorEq, Int.reduceEq, Int.reduceNe, fz]) (by simp -dsimp -implicitDefEqProofs (maxSteps := 1000000) only [go_sem, ↓reduceIte, Nat.reduceAdd, Nat.reduceSub, Nat.reduceMul, Nat.reduceLT, Nat.reduceLeDiff, Nat.reduceEqDiff, Nat.reduceBEq, Nat.reduceBNe, Int.reduceToNat, Int.reduceLT, Int.reduceLE, Int.reduceNeg, reduceCtorEq, Int.reduceEq, Int.reduceNe, fz, fzB]) (by simp) (by simp [sg]) trivial) (by intro fo xs ts h; cases h; exact ⟨by simp -dsimp -implicitDefEqProofs (maxSteps := 1000000) only [go_sem, ↓reduceIte, Nat.reduceAdd, Nat.reduceSub, Nat.reduceMul, Nat.reduceLT, Nat.reduceLeDiff, Nat.reduceEqDiff, Nat.reduceBEq, Nat.reduceBNe, Int.reduceToNat, Int.reduceLT, Int.reduceLE, Int.reduceNeg, reduceCtorEq, Int.reduceEq, Int.reduceNe], by simp -dsimp -implicitDefEqProofs (maxSteps := 1000000) only [go_sem, ↓reduceIte, Nat.reduceAdd, Nat.reduceSub, Nat.reduceMul, Nat.reduceLT, Nat.reduceLeDiff, Nat.reduceEqDiff, Nat.reduceBEq, Nat.reduceBNe, Int.reduceToNat, Int.reduceLT, Int.reduceLE, Int.reduceNeg, reduceCtorEq, Int.reduceEq, Int.reduceNe]⟩) ?_
  refine AtFn.pure0 run_4 ?_
  simp -dsimp -implicitDefEqProofs (maxSteps := 1000000) only [go_sem, ↓reduceIte, Nat.reduceAdd, Nat.reduceSub, Nat.reduceMul, Nat.reduceLT, Nat.reduceLeDiff, Nat.reduceEqDiff, Nat.reduceBEq, Nat.reduceBNe, Int.reduceToNat, Int.reduceLT, Int.reduceLE, Int.reduceNeg, reduceCtorEq, Int.reduceEq, Int.reduceNe]
  refine AtFn.le ⟨183, tl [(1, Rus q1), (2, Sets [(12, -5), (108, 0)]), (3, I 0), (4, Rus q4), (5, Sets [(1, 0), (3, 0), (2, 0)]), (6, I 0), (7, Rus q7), (46, Rus q7)], [], 0, .nil⟩ [Rus q7] (Le.ftl (Ls := []) (y := none) [0] [] (by simp -dsimp -implicitDefEqProofs (maxSteps := 1000000) only [go_sem, ↓reduceIte, Nat.reduceAdd, Nat.reduceSub, Nat.reduceMul, Nat.reduceLT, Nat.reduceLeDiff, Nat.reduceEqDiff, Nat.reduceBEq, Nat.reduceBNe, Int.reduceToNat, Int.reduceLT, Int.reduceLE, Int.reduceNeg, reduceCtorEq, Int.reduceEq, Int.reduceNe, fz]) (by simp -dsimp -implicitDefEqProofs (maxSteps := 1000000) only [go_sem, ↓reduceIte, Nat.reduceAdd, Nat.reduceSub, Nat.reduceMul, Nat.reduceLT, Nat.reduceLeDiff, Nat.reduceEqDiff, Nat.reduceBEq, Nat.reduceBNe, Int.reduceToNat, Int.reduceLT, Int.reduceLE, Int.reduceNeg, reduceCtorEq, Int.reduceEq, Int.reduceNe, fz, fzB]) (by simp) (by simp [sg]) trivial) (by intro fo xs ts h; cases h; exact ⟨by simp -dsimp -implicitDefEqProofs (maxSteps := 1000000) only [go_sem, ↓reduceIte, Nat.reduceAdd, Nat.reduceSub, Nat.reduceMul, Nat.reduceLT, Nat.reduceLeDiff, Nat.reduceEqDiff, Nat.reduceBEq, Nat.reduceBNe, Int.reduceToNat, Int.reduceLT, Int.reduceLE, Int.reduceNeg, reduceCtorEq, Int.reduceEq, Int.reduceNe], by simp -dsimp -implicitDefEqProofs (maxSteps := 1000000) only [go_sem, ↓reduceIte, Nat.reduceAdd, Nat.reduceSub, Nat.reduceMul, Nat.reduceLT, Nat.reduceLeDiff, Nat.reduceEqDiff, Nat.reduceBEq, Nat.reduceBNe, Int.reduceToNat, Int.reduceLT, Int.reduceLE, Int.reduceNeg, reduceCtorEq, Int.reduceEq, Int.reduceNe]⟩) ?_
  refine AtFn.pure0 ends_7 ?_
  simp -dsimp -implicitDefEqProofs (maxSteps := 1000000) only [go_sem, ↓reduceIte, Nat.reduceAdd, Nat.reduceSub, Nat.reduceMul, Nat.reduceLT, Nat.reduceLeDiff, Nat.reduceEqDiff, Nat.reduceBEq, Nat.reduceBNe, Int.reduceToNat, Int.reduceLT, Int.reduceLE, Int.reduceNeg, reduceCtorEq, Int.reduceEq, Int.reduceNe]
  refine AtFn.pure0 run_7 ?_
  simp -dsimp -implicitDefEqProofs (maxSteps := 1000000) only [go_sem, ↓reduceIte, Nat.reduceAdd, Nat.reduceSub, Nat.reduceMul, Nat.reduceLT, Nat.reduceLeDiff, Nat.reduceEqDiff, Nat.reduceBEq, Nat.reduceBNe, Int.reduceToNat, Int.reduceLT, Int.reduceLE, Int.reduceNeg, reduceCtorEq, Int.reduceEq, Int.reduceNe]
  refine AtFn.pure0 last_4 ?_
  simp -dsimp -implicitDefEqProofs (maxSteps := 1000000) only [go_sem, ↓reduceIte, Nat.reduceAdd, Nat.reduceSub, Nat.reduceMul, Nat.reduceLT, Nat.reduceLeDiff, Nat.reduceEqDiff, Nat.reduceBEq, Nat.reduceBNe, Int.reduceToNat, Int.reduceLT, Int.reduceLE, Int.reduceNeg, reduceCtorEq, Int.reduceEq, Int.reduceNe]
  refine AtFn.pure0 comp_1 ?_
  simp -dsimp -implicitDefEqProofs (maxSteps := 1000000) only [go_sem, ↓reduceIte, Nat.reduceAdd, Nat.reduceSub, Nat.reduceMul, Nat.reduceLT, Nat.reduceLeDiff, Nat.reduceEqDiff, Nat.reduceBEq, Nat.reduceBNe, Int.reduceToNat, Int.reduceLT, Int.reduceLE, Int.reduceNeg, reduceCtorEq, Int.reduceEq, Int.reduceNe]
  refine AtFn.pure exec_1 ?_
  simp -dsimp -implicitDefEqProofs (maxSteps := 1000000) only [go_sem, ↓reduceIte, Nat.reduceAdd, Nat.reduceSub, Nat.reduceMul, Nat.reduceLT, Nat.reduceLeDiff, Nat.reduceEqDiff, Nat.reduceBEq, Nat.reduceBNe, Int.reduceToNat, Int.reduceLT, Int.reduceLE, Int.reduceNeg, reduceCtorEq, Int.reduceEq, Int.reduceNe]
  refine ⟨rfl, AtFn.pure width_c ?_⟩
  simp -dsimp -implicitDefEqProofs (maxSteps := 1000000) only [go_sem, ↓reduceIte, Nat.reduceAdd, Nat.reduceSub, Nat.reduceMul, Nat.reduceLT, Nat.reduceLeDiff, Nat.reduceEqDiff, Nat.reduceBEq, Nat.reduceBNe, Int.reduceToNat, Int.reduceLT, Int.reduceLE, Int.reduceNeg, reduceCtorEq, Int.reduceEq, Int.reduceNe]
  refine ⟨rfl, AtFn.pure codes_4 ?_⟩
  simp -dsimp -implicitDefEqProofs (maxSteps := 1000000) only [go_sem, ↓reduceIte, Nat.reduceAdd, Nat.reduceSub, Nat.reduceMul, Nat.reduceLT, Nat.reduceLeDiff, Nat.reduceEqDiff, Nat.reduceBEq, Nat.reduceBNe, Int.reduceToNat, Int.reduceLT, Int.reduceLE, Int.reduceNeg, reduceCtorEq, Int.reduceEq, Int.reduceNe]
  refine ⟨rfl, AtFn.pure run_0 ?_⟩
  simp -dsimp -implicitDefEqProofs (maxSteps := 1000000) only [go_sem, ↓reduceIte, Nat.reduceAdd, Nat.reduceSub, Nat.reduceMul, Nat.reduceLT, Nat.reduceLeDiff, Nat.reduceEqDiff, Nat.reduceBEq, Nat.reduceBNe, Int.reduceToNat, Int.reduceLT, Int.reduceLE, Int.reduceNeg, reduceCtorEq, Int.reduceEq, Int.reduceNe]
  refine ⟨rfl, ?_⟩
  simp only [List.cons_append, List.nil_append, List.append_eq]
  simp -dsimp -implicitDefEqProofs (maxSteps := 1000000) only [go_sem, ↓reduceIte, Nat.reduceAdd, Nat.reduceSub, Nat.reduceMul, Nat.reduceLT, Nat.reduceLeDiff, Nat.reduceEqDiff, Nat.reduceBEq, Nat.reduceBNe, Int.reduceToNat, Int.reduceLT, Int.reduceLE, Int.reduceNeg, reduceCtorEq, Int.reduceEq, Int.reduceNe]
  refine AtFn.pure (sameTr [(12, -5), (108, 0)] (by decide)) ?_
  simp -dsimp -implicitDefEqProofs (maxSteps := 1000000) only [go_sem, ↓reduceIte, Nat.reduceAdd, Nat.reduceSub, Nat.reduceMul, Nat.reduceLT, Nat.reduceLeDiff, Nat.reduceEqDiff, Nat.reduceBEq, Nat.reduceBNe, Int.reduceToNat, Int.reduceLT, Int.reduceLE, Int.reduceNeg, reduceCtorEq, Int.reduceEq, Int.reduceNe]
  refine ⟨rfl, AtFn.pure (sameTr [(1, 0), (3, 0), (2, 0)] (by decide)) ?_⟩
  simp -dsimp -implicitDefEqProofs (maxSteps := 1000000) only [go_sem, ↓reduceIte, Nat.reduceAdd, Nat.reduceSub, Nat.reduceMul, Nat.reduceLT, Nat.reduceLeDiff, Nat.reduceEqDiff, Nat.reduceBEq, Nat.reduceBNe, Int.reduceToNat, Int.reduceLT, Int.reduceLE, Int.reduceNeg, reduceCtorEq, Int.reduceEq, Int.reduceNe]
  refine ⟨rfl, AtFn.pure0 (sameTr [(12, -5), (108, 0)] (by decide)) ?_⟩
  simp -dsimp -implicitDefEqProofs (maxSteps := 1000000) only [go_sem, ↓reduceIte, Nat.reduceAdd, Nat.reduceSub, Nat.reduceMul, Nat.reduceLT, Nat.reduceLeDiff, Nat.reduceEqDiff, Nat.reduceBEq, Nat.reduceBNe, Int.reduceToNat, Int.reduceLT, Int.reduceLE, Int.reduceNeg, reduceCtorEq, Int.reduceEq, Int.reduceNe]
  refine AtFn.pure0 valid_1 ?_
  simp -dsimp -implicitDefEqProofs (maxSteps := 1000000) only [go_sem, ↓reduceIte, Nat.reduceAdd, Nat.reduceSub, Nat.reduceMul, Nat.reduceLT, Nat.reduceLeDiff, Nat.reduceEqDiff, Nat.reduceBEq, Nat.reduceBNe, Int.reduceToNat, Int.reduceLT, Int.reduceLE, Int.reduceNeg, reduceCtorEq, Int.reduceEq, Int.reduceNe]
end

section
set_option maxRecDepth 20000
abbrev Tr := List (Int × Int) × Int × List Int
/-- One turn, without a bound. -/
def stepU (l : List Ru) (d : List (Int × Int)) (p c : Int) (q : List Int) : Tr :=
  match ruleOf l p c with
  | none => (d ++ [(p, 0)], c, q)
  | some x => if x.o = 0 then (d ++ [(p, x.v)], c, q) else if x.o = 1 then (d, x.v, q) else if x.o = 2 then (d, p, x.v :: q) else if x.o = 3 then (d, x.v, c :: q) else (d, p, x.v :: c :: q)
/-- Some turns. -/
inductive RU (l : List Ru) : Tr → Tr → Prop
  | refl (t : Tr) : RU l t t
  | step {d : List (Int × Int)} {p c : Int} {q : List Int} {u : Tr} (h : RU l (stepU l d p c q) u) : RU l (d, p, c :: q) u
theorem RU.trans {l : List Ru} {t u v : Tr} (h : RU l t u) (k : RU l u v) : RU l t v := by
  induction h with
  | refl => exact k
  | step _ ih => exact .step (ih k)
/-- Turns lead to one end. -/
theorem RU.tail {l : List Ru} {t u v : Tr} (h : RU l t u) (k : RU l t v) (hv : v.2.2 = []) : RU l u v := by
  induction h with
  | refl => exact k
  | step _ ih =>
    cases k with
    | refl => cases hv
    | step k => exact ih k
theorem RU.nil {l : List Ru} {t u : Tr} (h : RU l t u) (ht : t.2.2 = []) : u = t := by
  cases h with
  | refl => rfl
  | step => cases ht
theorem stepU_frame (l : List Ru) (d0 d : List (Int × Int)) (p c : Int) (q q0 : List Int) :
    stepU l (d0 ++ d) p c (q ++ q0) = (d0 ++ (stepU l d p c q).1, (stepU l d p c q).2.1, (stepU l d p c q).2.2 ++ q0) := by
  unfold stepU
  split
  · simp
  · repeat' split
    all_goals simp
theorem RU.frame {l : List Ru} {t u : Tr} (h : RU l t u) (d0 : List (Int × Int)) (q0 : List Int) : RU l (d0 ++ t.1, t.2.1, t.2.2 ++ q0) (d0 ++ u.1, u.2.1, u.2.2 ++ q0) := by
  induction h with
  | refl => exact .refl _
  | step _ ih =>
    refine .step (q := _ ++ q0) ?_
    rw [stepU_frame]
    exact ih
/-- Sets with codes and kerns. -/
def okD (d : List (Int × Int)) : Prop := ∀ s ∈ d, inCode s.1 = true ∧ inCoord s.2 = true
def okT (t : Tr) : Prop := okD t.1 ∧ inCode t.2.1 = true ∧ ∀ c ∈ t.2.2, inCode c = true
theorem okR_v {r : Ru} (h : okR r = true) : (r.o = 0 → inCoord r.v = true) ∧ (r.o ≠ 0 → inCode r.v = true) := by
  simp only [okR, Bool.and_eq_true] at h
  refine ⟨fun h0 => ?_, fun h0 => ?_⟩
  · have := h.2; rwa [if_pos h0] at this
  · have := h.2; rwa [if_neg h0] at this
theorem okR_of {l : List Ru} {a b : Int} {x : Ru} (hl : l.all okR = true) (h : ruleOf l a b = some x) : okR x = true := List.all_eq_true.1 hl x (ruleOf_mem h).1
theorem okD_snoc {d : List (Int × Int)} {p v : Int} (h : okD d) (hp : inCode p = true) (hv : inCoord v = true) : okD (d ++ [(p, v)]) := by
  intro s hs
  rcases List.mem_append.1 hs with h1 | h1
  · exact h s h1
  · simp at h1; subst h1; exact ⟨hp, hv⟩
theorem stepU_ok {l : List Ru} (hl : l.all okR = true) {d : List (Int × Int)} {p c : Int} {q : List Int} (h : okT (d, p, c :: q)) : okT (stepU l d p c q) := by
  obtain ⟨h1, h2, h3⟩ := h
  have hc := h3 c (List.mem_cons_self ..)
  have hq : ∀ x ∈ q, inCode x = true := fun x hx => h3 x (List.mem_cons_of_mem _ hx)
  unfold stepU
  cases hr : ruleOf l p c with
  | none => exact ⟨okD_snoc h1 h2 (by decide), hc, hq⟩
  | some x =>
    obtain ⟨i0, i1⟩ := okR_v (okR_of hl hr)
    simp only
    split
    · rename_i h0; exact ⟨okD_snoc h1 h2 (i0 h0), hc, hq⟩
    · rename_i h0
      have iv := i1 h0
      repeat' split
      · exact ⟨h1, iv, hq⟩
      · refine ⟨h1, h2, fun y hy => ?_⟩
        rcases List.mem_cons.1 hy with rfl | hy
        · exact iv
        · exact hq y hy
      · exact ⟨h1, iv, h3⟩
      · refine ⟨h1, h2, fun y hy => ?_⟩
        rcases List.mem_cons.1 hy with rfl | hy
        · exact iv
        · exact h3 y hy
theorem RU.ok {l : List Ru} (hl : l.all okR = true) {t u : Tr} (h : RU l t u) (ht : okT t) : okT u := by
  induction h with
  | refl => exact ht
  | step _ ih => exact ih (stepU_ok hl ht)
attribute [local go_sem] clIntsL clRusL clSets clRows clTbl clSetsT'
end

section
set_option maxRecDepth 20000
/-- The last of a pair, by pairs that hang on it, so deep. -/
inductive Gd (l : List Ru) : Int → Int → Int → Nat → Prop
  | kern {a b : Int} (hr : ∀ x, ruleOf l a b = some x → x.o = 0) : Gd l a b b 0
  | one {a b : Int} {x : Ru} (hr : ruleOf l a b = some x) (ho : x.o ≠ 0 ∧ x.o ≠ 2 ∧ x.o ≠ 3 ∧ x.o ≠ 4) : Gd l a b x.v 0
  | left {a b v : Int} {n : Nat} {x : Ru} (hr : ruleOf l a b = some x) (ho : x.o = 2) (h : Gd l a x.v v n) : Gd l a b v (n + 1)
  | right {a b v : Int} {n : Nat} {x : Ru} (hr : ruleOf l a b = some x) (ho : x.o = 3) (h : Gd l x.v b v n) : Gd l a b v (n + 1)
  | both {a b m v : Int} {n1 n2 : Nat} {x : Ru} (hr : ruleOf l a b = some x) (ho : x.o = 4) (h1 : Gd l a x.v m n1) (h2 : Gd l m b v n2) : Gd l a b v (n1 + n2 + 1)
theorem Gd.code {l : List Ru} (hl : l.all okR = true) {a b v : Int} {h : Nat} (g : Gd l a b v h) : inCode a = true → inCode b = true → inCode v = true := by
  induction g with
  | kern => intro _ hb; exact hb
  | one hr ho => intro _ _; exact (okR_v (okR_of hl hr)).2 ho.1
  | left hr ho _ ih => intro ha _; exact ih ha ((okR_v (okR_of hl hr)).2 (by omega))
  | right hr ho _ ih => intro _ hb; exact ih ((okR_v (okR_of hl hr)).2 (by omega)) hb
  | both hr ho _ _ ih1 ih2 => intro ha hb; exact ih2 (ih1 ha ((okR_v (okR_of hl hr)).2 (by omega))) hb
/-- It has no last. -/
def Hg (l : List Ru) (a b : Int) : Prop := ∀ v h, ¬Gd l a b v h
/-- What is known is right, but for pairs that are being asked. -/
def MOk (l : List Ru) (S : List (Int × Int)) (M : Mm) : Prop := ∀ p v, findM M p = some v → (∃ h, Gd l p.1 p.2 v h) ∨ (v = -1 ∧ (p ∈ S ∨ Hg l p.1 p.2))
def Inv (l : List Ru) (S : List (Int × Int)) (a b : Int) : Prop := ∀ p ∈ S, ∀ v h, Gd l p.1 p.2 v h → ∃ v' h', h' < h ∧ Gd l a b v' h'
theorem MOk.push {l : List Ru} {S : List (Int × Int)} {M : Mm} (h : MOk l S M) (p : Int × Int) : MOk l (p :: S) (putM M p (-1)) := by
  intro q v hq
  rw [findM_putM] at hq
  split at hq
  · cases hq; rename_i h; subst h; exact .inr ⟨rfl, .inl (List.mem_cons_self ..)⟩
  · rcases h q v hq with h1 | ⟨h1, h2⟩
    · exact .inl h1
    · exact .inr ⟨h1, h2.imp (List.mem_cons_of_mem _) id⟩
theorem Inv.push {l : List Ru} {S : List (Int × Int)} {a b a' b' : Int} (h : Inv l S a b) (hk : ∀ v h, Gd l a b v h → ∃ v' h', h' < h ∧ Gd l a' b' v' h') : Inv l ((a, b) :: S) a' b' := by
  intro p hp v n g
  rcases List.mem_cons.1 hp with rfl | hp
  · exact hk v n g
  · obtain ⟨v1, h1, hlt, g1⟩ := h p hp v n g
    obtain ⟨v2, h2, hlt2, g2⟩ := hk v1 h1 g1
    exact ⟨v2, h2, by omega, g2⟩
end

section
set_option maxRecDepth 20000
theorem okR_o {r : Ru} (h : okR r = true) : 0 ≤ r.o ∧ r.o ≤ 4 := by
  simp only [okR, Bool.and_eq_true, decide_eq_true_eq] at h; exact ⟨h.1.1.2, h.1.2⟩
theorem Gd.run {l : List Ru} (hl : l.all okR = true) {a b v : Int} {h : Nat} (g : Gd l a b v h) : ∃ d, RU l ([], a, [b]) (d, v, []) := by
  induction g with
  | @kern a b hr =>
    cases hq : ruleOf l a b with
    | none => exact ⟨_, .step (by unfold stepU; rw [hq]; exact .refl _)⟩
    | some x => exact ⟨_, .step (by unfold stepU; rw [hq]; simp only [hr x hq, if_true]; exact .refl _)⟩
  | @one a b x hr ho =>
    have h1 := okR_o (okR_of hl hr)
    have h2 : x.o = 1 := by omega
    exact ⟨_, .step (by unfold stepU; rw [hr]; simp only [h2]; exact .refl _)⟩
  | left hr ho _ ih =>
    obtain ⟨d, hd⟩ := ih
    exact ⟨d, .step (by unfold stepU; rw [hr]; simp only [ho]; exact hd)⟩
  | right hr ho _ ih =>
    obtain ⟨d, hd⟩ := ih
    exact ⟨d, .step (by unfold stepU; rw [hr]; simp only [ho]; exact hd)⟩
  | @both a b m v n1 n2 x hr ho _ _ ih1 ih2 =>
    obtain ⟨d1, h1⟩ := ih1
    obtain ⟨d2, h2⟩ := ih2
    have k1 := h1.frame [] [b]
    have k2 := h2.frame d1 []
    simp only [List.nil_append, List.append_nil, List.singleton_append] at k1 k2
    exact ⟨d1 ++ d2, .step (by unfold stepU; rw [hr]; simp only [ho]; exact k1.trans k2)⟩
attribute [local go_sem] clIntsL clRusL clSets clRows clTbl clSetsT'
end

section
set_option maxRecDepth 20000
/-- More codes. -/
def Bmo (B B' : List Bool) : Prop := ∀ i, B.getD i false = true → B'.getD i false = true
theorem Bmo.set (B : List Bool) (k : Nat) : Bmo B (B.set k true) := by
  intro i h
  simp only [List.getD_eq_getElem?_getD, List.getElem?_set] at h ⊢
  split
  · split
    · rfl
    · rename_i h1 h2; subst h1; rw [List.getElem?_eq_none (by omega)] at h; cases h
  · exact h
def cond (B : List Bool) (x : Ru) : Prop := x.o ≠ 0 ∧ B.getD x.f.toNat false = true ∧ B.getD x.n.toNat false = true ∧ B.getD x.v.toNat false = false
/-- Codes that are there, and are codes. -/
def hasC (B : List Bool) (c : Int) : Prop := inCode c = true ∧ B.getD c.toNat false = true
def hasT (B : List Bool) (t : Tr) : Prop := (∀ s ∈ t.1, hasC B s.1) ∧ hasC B t.2.1 ∧ ∀ c ∈ t.2.2, hasC B c
theorem stepU_has {l : List Ru} (hl : l.all okR = true) {B : List Bool} (hB : ∀ x ∈ l, ¬cond B x) {d : List (Int × Int)} {p c : Int} {q : List Int} (h : hasT B (d, p, c :: q)) : hasT B (stepU l d p c q) := by
  obtain ⟨h1, h2, h3⟩ := h
  have hc := h3 c (List.mem_cons_self ..)
  have hq : ∀ x ∈ q, hasC B x := fun x hx => h3 x (List.mem_cons_of_mem _ hx)
  have snoc : ∀ v, ∀ s ∈ d ++ [(p, v)], hasC B s.1 := by
    intro v s hs
    rcases List.mem_append.1 hs with h | h
    · exact h1 s h
    · simp only [List.mem_singleton] at h; subst h; exact h2
  unfold stepU
  cases hr : ruleOf l p c with
  | none => exact ⟨snoc 0, hc, hq⟩
  | some x =>
    obtain ⟨hx, rfl, rfl⟩ := ruleOf_mem hr
    simp only
    split
    · exact ⟨snoc _, hc, hq⟩
    · rename_i h0
      have hv : hasC B x.v := by
        refine ⟨(okR_v (List.all_eq_true.1 hl x hx)).2 h0, ?_⟩
        cases hg : B.getD x.v.toNat false with
        | true => rfl
        | false => exact absurd ⟨h0, h2.2, hc.2, hg⟩ (hB x hx)
      repeat' split
      · exact ⟨h1, hv, hq⟩
      · refine ⟨h1, h2, fun y hy => ?_⟩
        rcases List.mem_cons.1 hy with rfl | hy
        · exact hv
        · exact hq y hy
      · exact ⟨h1, hv, h3⟩
      · refine ⟨h1, h2, fun y hy => ?_⟩
        rcases List.mem_cons.1 hy with rfl | hy
        · exact hv
        · exact h3 y hy
theorem RU.has {l : List Ru} (hl : l.all okR = true) {B : List Bool} (hB : ∀ x ∈ l, ¬cond B x) {t u : Tr} (h : RU l t u) (ht : hasT B t) : hasT B u := by
  induction h with
  | refl => exact ht
  | step _ ih => exact ih (stepU_has hl hB ht)
/-- What a line gives by rules of kerns alone. -/
def kernL (l : List Ru) : List Int → List (Int × Int)
  | [] => []
  | [p] => [(p, 0)]
  | p :: c :: q => (p, ((ruleOf l p c).getD zR).v) :: kernL l (c :: q)
theorem RU.kern {l : List Ru} (hk : l.all (fun x => decide (x.o = 0)) = true) : ∀ (q : List Int) (p : Int) (d : List (Int × Int)) (d' : List (Int × Int)) (v : Int), RU l (d, p, q) (d', v, []) → d' ++ [(v, 0)] = d ++ kernL l (p :: q)
  | [], p, d, d', v, h => by
    have := h.nil rfl
    cases this
    rfl
  | c :: q, p, d, d', v, h => by
    have h2 : RU l (d ++ [(p, ((ruleOf l p c).getD zR).v)], c, q) (d', v, []) := by
      refine RU.tail (.step ?_) h rfl
      unfold stepU
      cases hr : ruleOf l p c with
      | none => exact .refl _
      | some x =>
        have := List.all_eq_true.1 hk x (ruleOf_mem hr).1
        simp only [of_decide_eq_true this, if_true]
        exact .refl _
    rw [RU.kern hk q c _ d' v h2, List.append_assoc]
    rfl
end

end Go.Proofs.Ytdamfkckjcplcaa
