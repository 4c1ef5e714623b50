/- What functions of the given program answer, part 5. Conditions: each theorem speaks for itself. -/
import Derived.Test.YtdamfkckjcplcaaBTy
import Derived.Test.YtdamfkckjcplcaaBF1
import Derived.Test.YtdamfkckjcplcaaBF2
import Derived.Test.YtdamfkckjcplcaaBF3
import Derived.Test.YtdamfkckjcplcaaBF4
set_option linter.unusedSimpArgs false
set_option linter.unusedVariables false
namespace Go.Proofs.Ytdamfkckjcplcaa
open Go Go.Eng Go.RowKit
attribute [local go_sem ↓] qE_move qE_assign qE_pick qE_load qE_fieldAddr qE_indexAddr qE_extract qE_binOp qE_not qE_convert qE_makeFunc qE_build qE_len qE_nilCheck qE_slice vc_end vc_skip vc_ret vc_seq vc_cond vc_block vc_exit vc_region vc_draw vc_loop vc_blk vc_lp vc_o_nil vc_o vc_o_guard onK_eq oK_move oK_assign oK_pick oK_load oK_fieldAddr oK_indexAddr oK_index oK_extract oK_binOp oK_unOp oK_convert oK_makeFunc oK_nilCheck oK_slice oK_build oK_len onN_eq oK_box oK_alloc oK_buildSlice onH_eq oK_store onA_eq oK_append oK_call oK_makeMap oK_lookup oK_mapUpdate bV_add bV_sub bV_mul bV_shr bV_eql bV_neq bV_lss bV_leq bV_gtr bV_geq vcQ_nil vcQ_cons vcQ_guard Q_move Q_assign Q_pick Q_load Q_fieldAddr Q_indexAddr Q_extract Q_binOp Q_unOp Q_nilCheck Q_slice Q_build Q_len Q_box Q_alloc Q_buildSlice onQA_eq Q_call qE_index tailB_nil tailB_true onS_eq tailB_store onP_eq tailB_append onQ_eq onQB_eq loadE indexE
attribute [local go_sem] force_eq optK_some optE_some optE_none bK_v tK_t fnK_fn fyK_fn nK_ptr nK_rp pK_ptr pK_rp brK_true brK_false brK_not evA_tmp evA_const evA_func putA_some putA_none pushA_eq slots_zero slots_nil tl_nil tl_cons find_cons find_nil setN_cons setN_nil dropN_nil dropN_cons loE_none loE_some hiE_none hiE_some slE_sl slE_ro bE_i bE_eql bE_neq intsA_nil intsA_cons gdK_b gdK_u popTo_blk popTo_c popTo_lp nilE_tmp nilE_int nilE_nil srcE_ro srcE_sl dstE_sl fin_eq res_nil res_tmp res_cell tup1 tup0 optA_some frz_v frz_ro frz_g frz_fn frz_ptr frz_sl optL_some nm_v nm_ro nm_g nm_fn nm_ptr nm_sl cells_v cells_g cells_ro cells_sl cells_fn one_int one_bool one_slice oneA_v oneA_ro oneA_sl ofV_int ofV_bool ofV_slice ofV_pointer len_ro len_sl asI_int fill_nil fill_cons chunks_nil chunks_cons take_all DrawK_eq idR_eq addB_some roB_cons sg_nil sg_cons ren_unk ren_v ren_nil ren_ptr ren_sl ren_ro ren_rp iK_ro iK_sl ixE_g takeA_00 takeA_s nil_eq maskE_eq i_InlQ i_tup2 i_oneMap i_RenF_nil i_RenF_cons i_cut_nil i_cut_cons wrap_wr brK_dec maskH_eq upd_get slots_succ Cl_v Cl_ro Cl_rp Cl_fn Cl_g Cl_t Bool.false_eq_true decide_true decide_false beq_self_eq_true true_and and_true ne_eq not_true not_false_eq_true List.elem_cons List.elem_nil List.contains_cons List.contains_nil List.getD_cons_zero List.getD_cons_succ Int.cast_ofNat_Int Bool.or_true Bool.true_or Bool.or_false Bool.false_or if_true if_false List.toList_toArray List.map_cons List.map_nil List.cons_append List.nil_append List.append_nil List.flatMap_cons List.flatMap_nil List.getElem?_cons_zero List.getElem?_cons_succ List.length_cons List.length_nil List.drop_succ_cons List.drop_zero List.take_succ_cons List.take_zero List.all_cons List.all_nil List.set_cons_zero List.set_cons_succ Option.bind_some Option.bind_none Option.map_some Option.map_none List.headD_cons List.tail_cons List.getElem?_toArray beq_true beq_false Bool.not_true Bool.not_false Bool.true_and Bool.and_true Bool.false_and Bool.and_false newCh List.replicate_succ List.replicate_zero Option.some.injEq exists_eq_left' sg_nil sg_cons List.mem_cons List.not_mem_nil forall_eq_or_imp forall_eq false_implies implies_true or_false false_or false_and and_false or_true true_or exists_false Option.isSome_some Option.isSome_none List.range_zero
attribute [local go_sem] T.sz3 T.by3 T.ag3 T.ik3 T.us3 T.ze3 T.sz4 T.ag4 T.sz22 T.ag22 T.sl22 T.sz28 T.ag28 T.ze28 T.bu28 T.sz32 T.ag32 T.sl32 T.ar32 T.pt32 T.ik32 T.us32 T.sz33 T.ag33 T.sl33 T.ar33 T.pt33 T.ik33 T.us33 T.sz40 T.ag40 T.sl40 T.ik40 T.us40 T.sz42 T.ag42 T.ze42 T.fl42_0 T.bu42 T.sz46 T.ag46 T.sl46 T.sz48 T.ag48 T.ze48 T.fl48_0 T.fl48_1 T.fl48_2 T.bu48 T.sz50 T.by50 T.ag50 T.ze50 T.fl50_0 T.fl50_1 T.fl50_2 T.fl50_3 T.bu50 T.sz54 T.ag54 T.sz56 T.ag56 T.ze56 T.fl56_0 T.fl56_1 T.fl56_2 T.fl56_3 T.bu56 T.sz58 T.by58 T.ag58 T.ze58 T.fl58_0 T.fl58_1 T.bu58 T.sz63 T.ag63 T.ze63 T.fl63_0 T.fl63_1 T.fl63_2 T.fl63_3 T.bu63 T.sz70 T.ag70 T.ze70 T.bu70 T.ze77 T.fl77_0 T.fl77_1 T.fl77_2 T.fl77_3 T.fl77_4 T.bu77 T.sz83 T.ag83 T.sl83 T.ar83 T.sz95 T.ag95 T.ze97 T.fl97_0 T.fl97_1 T.bu97 T.ag101 T.ik109 T.us109 T.ag112 -- EXTRA=EngZN
section
set_option maxRecDepth 20000
attribute [local go_sem] clIntsL clRusL clSets clRows clTbl clSetsT' Go.Eng.slE_sl3 rlO_mk
def rExecR (rows : List Ro4) (line : List Int) : AV :=
  if validT rows && okL line then (if (execF rows line).2 = 0 then .t [Sets (execF rows line).1, I 0] else .t [nilS, I (execF rows line).2]) else .t [nilS, I 2]
theorem rExecSub (rows : List Ro4) (line : List Int) : Sub (rExecR rows line) (.t [Sets (execF rows line).1, I (execF rows line).2]) := by
  unfold rExecR
  cases hv : (validT rows && okL line)
  · simp only [execF, hv, Bool.false_eq_true, if_false]; exact subNil _
  · simp only [if_true]
    split
    · rename_i h; rw [h]; exact .refl _
    · rename_i h
      have : (execF rows line).1 = [] := by
        unfold execF at h ⊢
        rw [hv] at h ⊢
        simp only [if_true] at h ⊢
        cases line with
        | nil => rfl
        | cons p q =>
          simp only at h ⊢
          rw [(execL_err rows q p []).resolve_left h]
      rw [this]
      exact subNil _
theorem clRExec (rows : List Ro4) (line : List Int) : Cl (rExecR rows line) := by
  unfold rExecR
  repeat' split
  · refine .t fun s hs => ?_
    simp at hs
    rcases hs with rfl | rfl
    · exact .ro (clSs _)
    · exact .v _
  · simp [Cl_t, Cl_v]
  · simp [Cl_t, Cl_v]
theorem rExec28 (rows : List Ro4) (line : List Int) (hl : rows.length < 2 ^ 40) (hl2 : line.length < 2 ^ 62) : PFun Try.prog 28 [TA rows, Ints line] (rExecR rows line) := by
  refine PFun.intro 400 mixed Try.func28 (by kernel_rfl) rfl (clRExec rows line) (Nat.le_of_ble_eq_true rfl) ?_; rw [Try.ntmps28, Try.results28]
  simp -dsimp -implicitDefEqProofs (maxSteps := 1000000) only [go_sem, ↓reduceIte, Nat.reduceAdd, Nat.reduceSub, Nat.reduceMul, Nat.reduceLT, Nat.reduceLeDiff, Nat.reduceEqDiff, Nat.reduceBEq, Nat.reduceBNe, Int.reduceToNat, Int.reduceLT, Int.reduceLE, Int.reduceNeg, reduceCtorEq, Int.reduceEq, Int.reduceNe]
  refine AtFn.pure0 (rTable51 rows hl) ?_
  simp -dsimp -implicitDefEqProofs (maxSteps := 1000000) only [go_sem, ↓reduceIte, Nat.reduceAdd, Nat.reduceSub, Nat.reduceMul, Nat.reduceLT, Nat.reduceLeDiff, Nat.reduceEqDiff, Nat.reduceBEq, Nat.reduceBNe, Int.reduceToNat, Int.reduceLT, Int.reduceLE, Int.reduceNeg, reduceCtorEq, Int.reduceEq, Int.reduceNe]
  cases hv : validT rows
  · simp -dsimp -implicitDefEqProofs (maxSteps := 1000000) only [go_sem, ↓reduceIte, Nat.reduceAdd, Nat.reduceSub, Nat.reduceMul, Nat.reduceLT, Nat.reduceLeDiff, Nat.reduceEqDiff, Nat.reduceBEq, Nat.reduceBNe, Int.reduceToNat, Int.reduceLT, Int.reduceLE, Int.reduceNeg, reduceCtorEq, Int.reduceEq, Int.reduceNe]
    simp only [rExecR, hv, Bool.false_and, Bool.false_eq_true, if_false]
  simp -dsimp -implicitDefEqProofs (maxSteps := 1000000) only [go_sem, ↓reduceIte, Nat.reduceAdd, Nat.reduceSub, Nat.reduceMul, Nat.reduceLT, Nat.reduceLeDiff, Nat.reduceEqDiff, Nat.reduceBEq, Nat.reduceBNe, Int.reduceToNat, Int.reduceLT, Int.reduceLE, Int.reduceNeg, reduceCtorEq, Int.reduceEq, Int.reduceNe]
  refine AtFn.pure0 (rLine line hl2) ?_
  simp -dsimp -implicitDefEqProofs (maxSteps := 1000000) only [go_sem, ↓reduceIte, Nat.reduceAdd, Nat.reduceSub, Nat.reduceMul, Nat.reduceLT, Nat.reduceLeDiff, Nat.reduceEqDiff, Nat.reduceBEq, Nat.reduceBNe, Int.reduceToNat, Int.reduceLT, Int.reduceLE, Int.reduceNeg, reduceCtorEq, Int.reduceEq, Int.reduceNe]
  cases ho : okL line
  · simp -dsimp -implicitDefEqProofs (maxSteps := 1000000) only [go_sem, ↓reduceIte, Nat.reduceAdd, Nat.reduceSub, Nat.reduceMul, Nat.reduceLT, Nat.reduceLeDiff, Nat.reduceEqDiff, Nat.reduceBEq, Nat.reduceBNe, Int.reduceToNat, Int.reduceLT, Int.reduceLE, Int.reduceNeg, reduceCtorEq, Int.reduceEq, Int.reduceNe]
    simp only [rExecR, ho, Bool.and_false, Bool.false_eq_true, if_false]
  have hraw : rExecR rows line = if (execF rows line).2 = 0 then .t [Sets (execF rows line).1, I 0] else .t [nilS, I (execF rows line).2] := by
    simp only [rExecR, hv, ho, Bool.and_self, if_true]
  rw [hraw]
  obtain ⟨res, hres⟩ : ∃ res, res = execF rows line := ⟨_, rfl⟩
  rw [← hres]
  have hline : line.length ≤ 500 := by simp only [okL, Bool.and_eq_true, decide_eq_true_eq] at ho; exact ho.1
  have hrowok : ∀ r ∈ rows, r.ss.length ≤ 2000 := by
    intro r hr
    have hok := List.all_eq_true.1 (validT_rise hv).2 r hr
    simp only [okRow, okSets, Bool.and_eq_true, decide_eq_true_eq] at hok
    exact hok.1.2.1
  have hres1 : ∀ p q, line = p :: q → res = execL rows q p [] := by
    intro p q h
    rw [hres]
    unfold execF
    rw [hv, ho, h]; rfl
  have hres0 : line = [] → res = ([], 0) := by
    intro h
    rw [hres]
    unfold execF
    rw [hv, ho, h]; rfl
  simp -dsimp -implicitDefEqProofs (maxSteps := 1000000) only [go_sem, ↓reduceIte, Nat.reduceAdd, Nat.reduceSub, Nat.reduceMul, Nat.reduceLT, Nat.reduceLeDiff, Nat.reduceEqDiff, Nat.reduceBEq, Nat.reduceBNe, Int.reduceToNat, Int.reduceLT, Int.reduceLE, Int.reduceNeg, reduceCtorEq, Int.reduceEq, Int.reduceNe, List.length_map]
  refine ⟨{t : Nat × List (Int × Int) // t.1 ≤ line.length ∧ t.2.length ≤ 2000 ∧ ((t.1 = 0 ∧ t.2 = []) ∨ ∃ o p, 1 ≤ t.1 ∧ t.2 = o ++ [(p, 0)] ∧ res = execL rows (line.drop t.1) p o)}, fun t => ⟨71, tl [(2, .ptr 0 0 0), (6, .sl 1 0 t.1.2.length), (20, Ints line), (21, I line.length), (22, I t.1.1)], [(0, ⟨1, [[Tbl rows]]⟩), (1, ⟨2, Ss t.1.2⟩)], 2, .nil⟩, fun t => line.length - t.1.1,
    ⟨⟨(0, []), by simp, by simp, .inl ⟨rfl, rfl⟩⟩, Le.tl0 (Ls := []) (y := none) [(1, 99)] ?_ ?_ (by simp) (by simp [sg]) trivial⟩, fun t => ?_⟩
  · simp -dsimp -implicitDefEqProofs (maxSteps := 1000000) only [go_sem, ↓reduceIte, Nat.reduceAdd, Nat.reduceSub, Nat.reduceMul, Nat.reduceLT, Nat.reduceLeDiff, Nat.reduceEqDiff, Nat.reduceBEq, Nat.reduceBNe, Int.reduceToNat, Int.reduceLT, Int.reduceLE, Int.reduceNeg, reduceCtorEq, Int.reduceEq, Int.reduceNe]
  · simp -dsimp -implicitDefEqProofs (maxSteps := 1000000) only [go_sem, ↓reduceIte, Nat.reduceAdd, Nat.reduceSub, Nat.reduceMul, Nat.reduceLT, Nat.reduceLeDiff, Nat.reduceEqDiff, Nat.reduceBEq, Nat.reduceBNe, Int.reduceToNat, Int.reduceLT, Int.reduceLE, Int.reduceNeg, reduceCtorEq, Int.reduceEq, Int.reduceNe]
    exact renL_F (by simp -dsimp -implicitDefEqProofs (maxSteps := 1000000) only [go_sem, ↓reduceIte, Nat.reduceAdd, Nat.reduceSub, Nat.reduceMul, Nat.reduceLT, Nat.reduceLeDiff, Nat.reduceEqDiff, Nat.reduceBEq, Nat.reduceBNe, Int.reduceToNat, Int.reduceLT, Int.reduceLE, Int.reduceNeg, reduceCtorEq, Int.reduceEq, Int.reduceNe])
  obtain ⟨⟨i, out⟩, hi, hout, hall⟩ := t
  simp only at hi hout hall
  simp -dsimp -implicitDefEqProofs (maxSteps := 1000000) only [go_sem, ↓reduceIte, Nat.reduceAdd, Nat.reduceSub, Nat.reduceMul, Nat.reduceLT, Nat.reduceLeDiff, Nat.reduceEqDiff, Nat.reduceBEq, Nat.reduceBNe, Int.reduceToNat, Int.reduceLT, Int.reduceLE, Int.reduceNeg, reduceCtorEq, Int.reduceEq, Int.reduceNe, List.length_map]
  refine ⟨fun h => ?_, fun h => ?_⟩
  · have hlt : i < line.length := by omega
    have e1 : wr ((i : Int) + 1) = ((i + 1 : Nat) : Int) := by rw [wr_in] <;> omega
    obtain ⟨c, hc⟩ : ∃ c, c = line.getD i 0 := ⟨_, rfl⟩
    have hg : line[i]? = some c := hc ▸ getI hlt
    have hol : out.length ≤ 1099511627775 := by omega
    rcases hall with ⟨rfl, rfl⟩ | ⟨o, p, h1, ho2, hres2⟩
    · simp -dsimp -implicitDefEqProofs (maxSteps := 1000000) only [go_sem, ↓reduceIte, Nat.reduceAdd, Nat.reduceSub, Nat.reduceMul, Nat.reduceLT, Nat.reduceLeDiff, Nat.reduceEqDiff, Nat.reduceBEq, Nat.reduceBNe, Int.reduceToNat, Int.reduceLT, Int.reduceLE, Int.reduceNeg, reduceCtorEq, Int.reduceEq, Int.reduceNe, List.getElem?_map, Int.toNat_natCast, Int.natCast_nonneg, hg]
      have hd0 : line = c :: line.drop 1 := by
        have e : line.getD 0 0 = line[0] := by simp [List.getD, hlt]
        rw [hc, e]
        exact List.drop_eq_getElem_cons hlt
      have e0 : wr (0 + 1) = ((0 + 1 : Nat) : Int) := e1
      refine ⟨⟨(1, [(c, 0)]), by show 1 ≤ line.length; omega, by simp, .inr ⟨[], c, Nat.le_refl _, rfl, hres1 c _ hd0⟩⟩, by show line.length - 1 < line.length - 0; omega, Le.tl (Ls := []) (y := none) [(1, 3)] ?_ ?_ (by simp) (by simp [sg]) trivial⟩
      · simp -dsimp -implicitDefEqProofs (maxSteps := 1000000) only [go_sem, ↓reduceIte, Nat.reduceAdd, Nat.reduceSub, Nat.reduceMul, Nat.reduceLT, Nat.reduceLeDiff, Nat.reduceEqDiff, Nat.reduceBEq, Nat.reduceBNe, Int.reduceToNat, Int.reduceLT, Int.reduceLE, Int.reduceNeg, reduceCtorEq, Int.reduceEq, Int.reduceNe, e0]
      · simp -dsimp -implicitDefEqProofs (maxSteps := 1000000) only [go_sem, ↓reduceIte, Nat.reduceAdd, Nat.reduceSub, Nat.reduceMul, Nat.reduceLT, Nat.reduceLeDiff, Nat.reduceEqDiff, Nat.reduceBEq, Nat.reduceBNe, Int.reduceToNat, Int.reduceLT, Int.reduceLE, Int.reduceNeg, reduceCtorEq, Int.reduceEq, Int.reduceNe]
        exact ⟨renL_F (by simp -dsimp -implicitDefEqProofs (maxSteps := 1000000) only [go_sem, ↓reduceIte, Nat.reduceAdd, Nat.reduceSub, Nat.reduceMul, Nat.reduceLT, Nat.reduceLeDiff, Nat.reduceEqDiff, Nat.reduceBEq, Nat.reduceBNe, Int.reduceToNat, Int.reduceLT, Int.reduceLE, Int.reduceNeg, reduceCtorEq, Int.reduceEq, Int.reduceNe]), renL_ss (W := [(c, 0)]) rfl⟩
    · have hdr : line.drop i = c :: line.drop (i + 1) := by
        have e : line.getD i 0 = line[i] := by simp [List.getD, hlt]
        rw [hc, e]
        exact List.drop_eq_getElem_cons hlt
      rw [hdr] at hres2
      simp only [execL] at hres2
      have hol2 : out.length = o.length + 1 := by rw [ho2]; simp
      have e2 : wr ((out.length : Int) - 1) = (o.length : Int) := by rw [wr_in] <;> omega
      have e3 : ¬ (i : Int) = 0 := by omega
      have e4 : (Ss out)[o.length]? = some [I p, I 0] := by rw [ho2]; simp [Ss]
      have e5 : (o.length : Int) < (out.length : Int) := by omega
      have e6 : o.length ≤ out.length := by omega
      have f1 := find52 rows p c (by omega)
      simp -dsimp -implicitDefEqProofs (maxSteps := 1000000) only [go_sem, ↓reduceIte, Nat.reduceAdd, Nat.reduceSub, Nat.reduceMul, Nat.reduceLT, Nat.reduceLeDiff, Nat.reduceEqDiff, Nat.reduceBEq, Nat.reduceBNe, Int.reduceToNat, Int.reduceLT, Int.reduceLE, Int.reduceNeg, reduceCtorEq, Int.reduceEq, Int.reduceNe, List.getElem?_map, Int.toNat_natCast, Int.natCast_nonneg, hg, e2, e3]
      refine AtCode.drawB 12 [([], []), ([], []), ([], []), ([1, 2], []), ([1, 2, 3], []), ([1, 2, 3, 4], []), ([], []), ([0, 1, 2, 3, 4, 5, 6], []), ([0, 1, 2, 3, 4, 5, 6, 7], []), ([0, 1, 2, 3, 4, 5, 6, 7, 8], []), ([0, 1, 2, 3, 4, 5, 6, 7, 8], [13]), ([], []), ([0, 1, 2, 3, 4, 5, 6, 7, 8, 9, 11], []), ([0, 1, 2, 3, 4, 5, 6, 7, 8, 9, 10, 11, 12], [])] [false, true] (by kernel_rfl) ?_
      simp -dsimp -implicitDefEqProofs (maxSteps := 1000000) only [go_sem, ↓reduceIte, Nat.reduceAdd, Nat.reduceSub, Nat.reduceMul, Nat.reduceLT, Nat.reduceLeDiff, Nat.reduceEqDiff, Nat.reduceBEq, Nat.reduceBNe, Int.reduceToNat, Int.reduceLT, Int.reduceLE, Int.reduceNeg, reduceCtorEq, Int.reduceEq, Int.reduceNe, List.getElem?_map, Int.toNat_natCast, Int.natCast_nonneg, e4, e5, Nat.zero_add]
      cases hf : rowOf rows p c with
      | none =>
        rw [hf] at f1 hres2
        simp only at hres2
        refine QFn.use _ f1 (by simp -dsimp -implicitDefEqProofs (maxSteps := 1000000) only [go_sem, ↓reduceIte, Nat.reduceAdd, Nat.reduceSub, Nat.reduceMul, Nat.reduceLT, Nat.reduceLeDiff, Nat.reduceEqDiff, Nat.reduceBEq, Nat.reduceBNe, Int.reduceToNat, Int.reduceLT, Int.reduceLE, Int.reduceNeg, reduceCtorEq, Int.reduceEq, Int.reduceNe]) ?_
        simp -dsimp -implicitDefEqProofs (maxSteps := 1000000) only [go_sem, ↓reduceIte, Nat.reduceAdd, Nat.reduceSub, Nat.reduceMul, Nat.reduceLT, Nat.reduceLeDiff, Nat.reduceEqDiff, Nat.reduceBEq, Nat.reduceBNe, Int.reduceToNat, Int.reduceLT, Int.reduceLE, Int.reduceNeg, reduceCtorEq, Int.reduceEq, Int.reduceNe, Option.isSome_none, Option.isSome_some]
        refine ⟨by kernel_rfl, ?_⟩
        simp -dsimp -implicitDefEqProofs (maxSteps := 1000000) only [go_sem, ↓reduceIte, Nat.reduceAdd, Nat.reduceSub, Nat.reduceMul, Nat.reduceLT, Nat.reduceLeDiff, Nat.reduceEqDiff, Nat.reduceBEq, Nat.reduceBNe, Int.reduceToNat, Int.reduceLT, Int.reduceLE, Int.reduceNeg, reduceCtorEq, Int.reduceEq, Int.reduceNe, takeSs, Nat.zero_add, Nat.le_refl, hol, List.length_map, snocSs]
        have e7 : (out ++ [(c, (0 : Int))]).length = out.length + 1 := by simp
        refine ⟨fun h5 => ?_, fun h5 => ?_⟩
        · rw [if_pos (by rw [← ho2]; omega)] at hres2
          rw [hres2, if_neg (by decide)]
        · rw [if_neg (by rw [← ho2]; omega)] at hres2
          refine ⟨⟨(i + 1, out ++ [(c, 0)]), by show i + 1 ≤ line.length; omega, by show (out ++ [(c, (0 : Int))]).length ≤ 2000; omega, .inr ⟨out, c, by show 1 ≤ i + 1; omega, rfl, by rw [hres2, ho2]⟩⟩, by show line.length - (i + 1) < line.length - i; omega, Le.tl (Ls := []) (y := none) [(1, 15)] ?_ ?_ (by simp) (by simp [sg]) trivial⟩
          · simp -dsimp -implicitDefEqProofs (maxSteps := 1000000) only [go_sem, ↓reduceIte, Nat.reduceAdd, Nat.reduceSub, Nat.reduceMul, Nat.reduceLT, Nat.reduceLeDiff, Nat.reduceEqDiff, Nat.reduceBEq, Nat.reduceBNe, Int.reduceToNat, Int.reduceLT, Int.reduceLE, Int.reduceNeg, reduceCtorEq, Int.reduceEq, Int.reduceNe, e1]
          · simp -dsimp -implicitDefEqProofs (maxSteps := 1000000) only [go_sem, ↓reduceIte, Nat.reduceAdd, Nat.reduceSub, Nat.reduceMul, Nat.reduceLT, Nat.reduceLeDiff, Nat.reduceEqDiff, Nat.reduceBEq, Nat.reduceBNe, Int.reduceToNat, Int.reduceLT, Int.reduceLE, Int.reduceNeg, reduceCtorEq, Int.reduceEq, Int.reduceNe]
            exact ⟨renL_F (by simp -dsimp -implicitDefEqProofs (maxSteps := 1000000) only [go_sem, ↓reduceIte, Nat.reduceAdd, Nat.reduceSub, Nat.reduceMul, Nat.reduceLT, Nat.reduceLeDiff, Nat.reduceEqDiff, Nat.reduceBEq, Nat.reduceBNe, Int.reduceToNat, Int.reduceLT, Int.reduceLE, Int.reduceNeg, reduceCtorEq, Int.reduceEq, Int.reduceNe]), renL_ss rfl⟩
      | some r =>
        rw [hf] at f1 hres2
        simp only at hres2
        refine QFn.use _ f1 (by simp -dsimp -implicitDefEqProofs (maxSteps := 1000000) only [go_sem, ↓reduceIte, Nat.reduceAdd, Nat.reduceSub, Nat.reduceMul, Nat.reduceLT, Nat.reduceLeDiff, Nat.reduceEqDiff, Nat.reduceBEq, Nat.reduceBNe, Int.reduceToNat, Int.reduceLT, Int.reduceLE, Int.reduceNeg, reduceCtorEq, Int.reduceEq, Int.reduceNe]) ?_
        simp -dsimp -implicitDefEqProofs (maxSteps := 1000000) only [go_sem, ↓reduceIte, Nat.reduceAdd, Nat.reduceSub, Nat.reduceMul, Nat.reduceLT, Nat.reduceLeDiff, Nat.reduceEqDiff, Nat.reduceBEq, Nat.reduceBNe, Int.reduceToNat, Int.reduceLT, Int.reduceLE, Int.reduceNeg, reduceCtorEq, Int.reduceEq, Int.reduceNe, Option.isSome_none, Option.isSome_some]
        refine ⟨by kernel_rfl, ?_⟩
        refine AtCode.drawBP [0, 1, 2, 3, 4, 5, 7, 8, 9, 10, 6, 11, 12] [0, 1, 2, 3, 4, 5, 10, 6, 7, 8, 9, 11, 12] 10 [([], []), ([], []), ([], []), ([0, 1, 2], []), ([], []), ([4], []), ([], [1]), ([6], [1]), ([6, 7], [1]), ([6, 7, 8], [1]), ([0, 1, 2, 3, 4, 5], []), ([0, 1, 2, 3, 4, 5, 6, 7, 8, 9, 10], []), ([0, 1, 2, 3, 4, 5, 6, 7, 8, 9, 10, 11], [])] [false, true, true] (by kernel_rfl) ?_
        simp only [List.toList_toArray, pmO, List.filterMap_cons, List.filterMap_nil, List.getElem?_cons_succ, List.getElem?_cons_zero, Option.map_some, rlO_mk, force_eq]
        have tkO : takeA 0 o.length (Ss out) = Ss o := by rw [ho2]; simp [takeA, Ss, List.take_append]
        have hrl := hrowok r (by unfold rowOf at hf; exact List.mem_of_find?_eq_some hf)
        have e8 : o.length + r.ss.length ≤ 1099511627776 := by omega
        have e9 : (o ++ r.ss).length ≤ 1099511627775 := by rw [List.length_append]; omega
        simp -dsimp -implicitDefEqProofs (maxSteps := 1000000) only [go_sem, ↓reduceIte, Nat.reduceAdd, Nat.reduceSub, Nat.reduceMul, Nat.reduceLT, Nat.reduceLeDiff, Nat.reduceEqDiff, Nat.reduceBEq, Nat.reduceBNe, Int.reduceToNat, Int.reduceLT, Int.reduceLE, Int.reduceNeg, reduceCtorEq, Int.reduceEq, Int.reduceNe, takeSs, Nat.zero_add, Nat.le_refl, hol, List.length_map, snocSs, e6, Int.toNat_natCast, Int.natCast_nonneg, Nat.sub_zero, tkO, appSs, e8, e9]
        have e10 : (o ++ r.ss ++ [(r.la, (0 : Int))]).length = (o ++ r.ss).length + 1 := by rw [List.length_append]; rfl
        refine ⟨Nat.zero_le _, ?_, by kernel_rfl, fun h5 => ?_, fun h5 => ?_⟩
        · first | kernel_rfl | exact oneSs r.ss
        · rw [if_pos (by omega)] at hres2
          rw [hres2, if_neg (by decide)]
        · rw [if_neg (by omega)] at hres2
          refine ⟨⟨(i + 1, o ++ r.ss ++ [(r.la, 0)]), by show i + 1 ≤ line.length; omega, by show (o ++ r.ss ++ [(r.la, (0 : Int))]).length ≤ 2000; omega, .inr ⟨o ++ r.ss, r.la, by show 1 ≤ i + 1; omega, rfl, hres2⟩⟩, by show line.length - (i + 1) < line.length - i; omega, Le.tl (Ls := []) (y := none) [(1, 25)] ?_ ?_ (by simp) (by simp [sg]) trivial⟩
          · simp -dsimp -implicitDefEqProofs (maxSteps := 1000000) only [go_sem, ↓reduceIte, Nat.reduceAdd, Nat.reduceSub, Nat.reduceMul, Nat.reduceLT, Nat.reduceLeDiff, Nat.reduceEqDiff, Nat.reduceBEq, Nat.reduceBNe, Int.reduceToNat, Int.reduceLT, Int.reduceLE, Int.reduceNeg, reduceCtorEq, Int.reduceEq, Int.reduceNe, e1]
          · simp -dsimp -implicitDefEqProofs (maxSteps := 1000000) only [go_sem, ↓reduceIte, Nat.reduceAdd, Nat.reduceSub, Nat.reduceMul, Nat.reduceLT, Nat.reduceLeDiff, Nat.reduceEqDiff, Nat.reduceBEq, Nat.reduceBNe, Int.reduceToNat, Int.reduceLT, Int.reduceLE, Int.reduceNeg, reduceCtorEq, Int.reduceEq, Int.reduceNe]
            exact ⟨renL_F (by simp -dsimp -implicitDefEqProofs (maxSteps := 1000000) only [go_sem, ↓reduceIte, Nat.reduceAdd, Nat.reduceSub, Nat.reduceMul, Nat.reduceLT, Nat.reduceLeDiff, Nat.reduceEqDiff, Nat.reduceBEq, Nat.reduceBNe, Int.reduceToNat, Int.reduceLT, Int.reduceLE, Int.reduceNeg, reduceCtorEq, Int.reduceEq, Int.reduceNe]), renL_ss rfl⟩
  · have hi' : i = line.length := by omega
    subst hi'
    rw [takeSs, if_pos (by omega)]
    rcases hall with ⟨h0, rfl⟩ | ⟨o, p, h1, ho2, hr2⟩
    · rw [hres0 (List.length_eq_zero_iff.1 h0), if_pos rfl]
    · rw [List.drop_length] at hr2
      simp only [execL] at hr2
      rw [hr2, if_pos rfl, ho2]
end

section
set_option maxRecDepth 20000
attribute [local go_sem] clIntsL clRusL clSets clRows clTbl clSetsT'
theorem execL_len (rows : List Ro4) : ∀ (q : List Int) (p : Int) (out : List (Int × Int)), out.length < 2000 → (execL rows q p out).1.length ≤ 2000
  | [], p, out, h => by simp only [execL, List.length_append, List.length_cons, List.length_nil]; omega
  | c :: q, p, out, h => by
    simp only [execL]
    split
    · split
      · simp
      · exact execL_len rows q _ _ (by omega)
    · split
      · simp
      · exact execL_len rows q _ _ (by omega)
theorem execF_len (rows : List Ro4) (line : List Int) : (execF rows line).1.length ≤ 2000 := by
  unfold execF
  split
  · cases line with
    | nil => simp
    | cons p q => exact execL_len rows q p [] (by simp)
  · simp
theorem ligExecs (rows : List Ro4) (line : List Int) (z : Int) (cs rl : List Ru) : PFun Try.prog 6 [TA rows, Ints line, MeA z cs rl] (Bo true) := by
  refine PFun.intro 400 mixed Try.func6 (by kernel_rfl) rfl (by first | exact .v _ | (simp [Cl_v, Cl_t, Cl_g, Cl_fn, Cl_rp, Cl_ro]; done) | (simp [Cl_v, Cl_t, Cl_g, Cl_fn, Cl_rp, Cl_ro, or_imp, forall_and]; done) | (split <;> simp [Cl_v, Cl_t, Cl_g, Cl_fn, Cl_rp, Cl_ro])) (Nat.le_of_ble_eq_true rfl) ?_; rw [Try.ntmps6, Try.results6]
  simp -dsimp -implicitDefEqProofs (maxSteps := 1000000) only [go_sem, ↓reduceIte, Nat.reduceAdd, Nat.reduceSub, Nat.reduceMul, Nat.reduceLT, Nat.reduceLeDiff, Nat.reduceEqDiff, Nat.reduceBEq, Nat.reduceBNe, Int.reduceToNat, Int.reduceLT, Int.reduceLE, Int.reduceNeg, reduceCtorEq, Int.reduceEq, Int.reduceNe, List.length_map]
  refine ⟨{t : Nat × Int // t.1 ≤ rows.length ∧ t.1 ≤ 601}, fun t => ⟨105, tl [(1, Ints line), (3, .ptr 0 0 0), (5, .ptr 1 0 0), (7, I t.1.2), (8, I t.1.1)], [(0, ⟨1, [[Tbl rows]]⟩), (1, ⟨3, [[I z, Rus cs, Rus rl]]⟩)], 2, .nil⟩, fun t => rows.length - t.1.1,
    ⟨⟨(0, 0), by simp, by simp⟩, Le.tl (Ls := []) (y := none) [] ?_ ?_ (by simp) (by simp [sg]) trivial⟩, fun t => ?_⟩
  · simp -dsimp -implicitDefEqProofs (maxSteps := 1000000) only [go_sem, ↓reduceIte, Nat.reduceAdd, Nat.reduceSub, Nat.reduceMul, Nat.reduceLT, Nat.reduceLeDiff, Nat.reduceEqDiff, Nat.reduceBEq, Nat.reduceBNe, Int.reduceToNat, Int.reduceLT, Int.reduceLE, Int.reduceNeg, reduceCtorEq, Int.reduceEq, Int.reduceNe]
    try rfl
  · simp -dsimp -implicitDefEqProofs (maxSteps := 1000000) only [go_sem, ↓reduceIte, Nat.reduceAdd, Nat.reduceSub, Nat.reduceMul, Nat.reduceLT, Nat.reduceLeDiff, Nat.reduceEqDiff, Nat.reduceBEq, Nat.reduceBNe, Int.reduceToNat, Int.reduceLT, Int.reduceLE, Int.reduceNeg, reduceCtorEq, Int.reduceEq, Int.reduceNe]
    exact ⟨renL_F (by simp -dsimp -implicitDefEqProofs (maxSteps := 1000000) only [go_sem, ↓reduceIte, Nat.reduceAdd, Nat.reduceSub, Nat.reduceMul, Nat.reduceLT, Nat.reduceLeDiff, Nat.reduceEqDiff, Nat.reduceBEq, Nat.reduceBNe, Int.reduceToNat, Int.reduceLT, Int.reduceLE, Int.reduceNeg, reduceCtorEq, Int.reduceEq, Int.reduceNe]), renL_F (by simp -dsimp -implicitDefEqProofs (maxSteps := 1000000) only [go_sem, ↓reduceIte, Nat.reduceAdd, Nat.reduceSub, Nat.reduceMul, Nat.reduceLT, Nat.reduceLeDiff, Nat.reduceEqDiff, Nat.reduceBEq, Nat.reduceBNe, Int.reduceToNat, Int.reduceLT, Int.reduceLE, Int.reduceNeg, reduceCtorEq, Int.reduceEq, Int.reduceNe])⟩
  obtain ⟨⟨i, n⟩, hi, hi2⟩ := t
  simp only at hi hi2
  by_cases h1 : (i : Int) < (rows.length : Int)
  · by_cases h2 : (i : Int) < 601
    · have hlt : i < rows.length := by omega
      obtain ⟨r, hr⟩ : ∃ r, r = rows.getD i zT := ⟨_, rfl⟩
      have hg : rows[i]? = some r := hr ▸ getT hlt
      have e3 : wr ((i : Int) + 1) = ((i + 1 : Nat) : Int) := by rw [wr_in] <;> omega
      simp -dsimp -implicitDefEqProofs (maxSteps := 1000000) only [go_sem, ↓reduceIte, Nat.reduceAdd, Nat.reduceSub, Nat.reduceMul, Nat.reduceLT, Nat.reduceLeDiff, Nat.reduceEqDiff, Nat.reduceBEq, Nat.reduceBNe, Int.reduceToNat, Int.reduceLT, Int.reduceLE, Int.reduceNeg, reduceCtorEq, Int.reduceEq, Int.reduceNe, List.length_map, h1, h2, List.getElem?_map, Int.toNat_natCast, Int.natCast_nonneg, hg]
      refine ⟨⟨(i + 1, wr (n + (r.ss.length : Int))), by show i + 1 ≤ rows.length; omega, by show i + 1 ≤ 601; omega⟩, by show rows.length - (i + 1) < rows.length - i; omega, Le.tl (Ls := []) (y := none) [] ?_ ?_ (by simp) (by simp [sg]) trivial⟩
      · simp -dsimp -implicitDefEqProofs (maxSteps := 1000000) only [go_sem, ↓reduceIte, Nat.reduceAdd, Nat.reduceSub, Nat.reduceMul, Nat.reduceLT, Nat.reduceLeDiff, Nat.reduceEqDiff, Nat.reduceBEq, Nat.reduceBNe, Int.reduceToNat, Int.reduceLT, Int.reduceLE, Int.reduceNeg, reduceCtorEq, Int.reduceEq, Int.reduceNe, e3]
      · simp -dsimp -implicitDefEqProofs (maxSteps := 1000000) only [go_sem, ↓reduceIte, Nat.reduceAdd, Nat.reduceSub, Nat.reduceMul, Nat.reduceLT, Nat.reduceLeDiff, Nat.reduceEqDiff, Nat.reduceBEq, Nat.reduceBNe, Int.reduceToNat, Int.reduceLT, Int.reduceLE, Int.reduceNeg, reduceCtorEq, Int.reduceEq, Int.reduceNe]
        exact ⟨renL_F (by simp -dsimp -implicitDefEqProofs (maxSteps := 1000000) only [go_sem, ↓reduceIte, Nat.reduceAdd, Nat.reduceSub, Nat.reduceMul, Nat.reduceLT, Nat.reduceLeDiff, Nat.reduceEqDiff, Nat.reduceBEq, Nat.reduceBNe, Int.reduceToNat, Int.reduceLT, Int.reduceLE, Int.reduceNeg, reduceCtorEq, Int.reduceEq, Int.reduceNe]), renL_F (by simp -dsimp -implicitDefEqProofs (maxSteps := 1000000) only [go_sem, ↓reduceIte, Nat.reduceAdd, Nat.reduceSub, Nat.reduceMul, Nat.reduceLT, Nat.reduceLeDiff, Nat.reduceEqDiff, Nat.reduceBEq, Nat.reduceBNe, Int.reduceToNat, Int.reduceLT, Int.reduceLE, Int.reduceNeg, reduceCtorEq, Int.reduceEq, Int.reduceNe])⟩
    · have h3 : 600 < (rows.length : Int) := by omega
      simp -dsimp -implicitDefEqProofs (maxSteps := 1000000) only [go_sem, ↓reduceIte, Nat.reduceAdd, Nat.reduceSub, Nat.reduceMul, Nat.reduceLT, Nat.reduceLeDiff, Nat.reduceEqDiff, Nat.reduceBEq, Nat.reduceBNe, Int.reduceToNat, Int.reduceLT, Int.reduceLE, Int.reduceNeg, reduceCtorEq, Int.reduceEq, Int.reduceNe, List.length_map, h1, h2, h3]
      refine AtFn.pure0 awake ?_
      simp -dsimp -implicitDefEqProofs (maxSteps := 1000000) only [go_sem, ↓reduceIte, Nat.reduceAdd, Nat.reduceSub, Nat.reduceMul, Nat.reduceLT, Nat.reduceLeDiff, Nat.reduceEqDiff, Nat.reduceBEq, Nat.reduceBNe, Int.reduceToNat, Int.reduceLT, Int.reduceLE, Int.reduceNeg, reduceCtorEq, Int.reduceEq, Int.reduceNe]
  have hrl : rows.length ≤ 601 := by omega
  by_cases h3 : 600 < (rows.length : Int)
  · simp -dsimp -implicitDefEqProofs (maxSteps := 1000000) only [go_sem, ↓reduceIte, Nat.reduceAdd, Nat.reduceSub, Nat.reduceMul, Nat.reduceLT, Nat.reduceLeDiff, Nat.reduceEqDiff, Nat.reduceBEq, Nat.reduceBNe, Int.reduceToNat, Int.reduceLT, Int.reduceLE, Int.reduceNeg, reduceCtorEq, Int.reduceEq, Int.reduceNe, List.length_map, h1, h3]
    refine AtFn.pure0 awake ?_
    simp -dsimp -implicitDefEqProofs (maxSteps := 1000000) only [go_sem, ↓reduceIte, Nat.reduceAdd, Nat.reduceSub, Nat.reduceMul, Nat.reduceLT, Nat.reduceLeDiff, Nat.reduceEqDiff, Nat.reduceBEq, Nat.reduceBNe, Int.reduceToNat, Int.reduceLT, Int.reduceLE, Int.reduceNeg, reduceCtorEq, Int.reduceEq, Int.reduceNe]
  by_cases h4 : 25000 < n
  · simp -dsimp -implicitDefEqProofs (maxSteps := 1000000) only [go_sem, ↓reduceIte, Nat.reduceAdd, Nat.reduceSub, Nat.reduceMul, Nat.reduceLT, Nat.reduceLeDiff, Nat.reduceEqDiff, Nat.reduceBEq, Nat.reduceBNe, Int.reduceToNat, Int.reduceLT, Int.reduceLE, Int.reduceNeg, reduceCtorEq, Int.reduceEq, Int.reduceNe, List.length_map, h1, h3, h4]
    refine AtFn.pure0 awake ?_
    simp -dsimp -implicitDefEqProofs (maxSteps := 1000000) only [go_sem, ↓reduceIte, Nat.reduceAdd, Nat.reduceSub, Nat.reduceMul, Nat.reduceLT, Nat.reduceLeDiff, Nat.reduceEqDiff, Nat.reduceBEq, Nat.reduceBNe, Int.reduceToNat, Int.reduceLT, Int.reduceLE, Int.reduceNeg, reduceCtorEq, Int.reduceEq, Int.reduceNe]
  by_cases h5 : 600 < (line.length : Int)
  · simp -dsimp -implicitDefEqProofs (maxSteps := 1000000) only [go_sem, ↓reduceIte, Nat.reduceAdd, Nat.reduceSub, Nat.reduceMul, Nat.reduceLT, Nat.reduceLeDiff, Nat.reduceEqDiff, Nat.reduceBEq, Nat.reduceBNe, Int.reduceToNat, Int.reduceLT, Int.reduceLE, Int.reduceNeg, reduceCtorEq, Int.reduceEq, Int.reduceNe, List.length_map, h1, h3, h4, h5]
    refine AtFn.pure0 awake ?_
    simp -dsimp -implicitDefEqProofs (maxSteps := 1000000) only [go_sem, ↓reduceIte, Nat.reduceAdd, Nat.reduceSub, Nat.reduceMul, Nat.reduceLT, Nat.reduceLeDiff, Nat.reduceEqDiff, Nat.reduceBEq, Nat.reduceBNe, Int.reduceToNat, Int.reduceLT, Int.reduceLE, Int.reduceNeg, reduceCtorEq, Int.reduceEq, Int.reduceNe]
  by_cases h6 : 300 < (cs.length : Int)
  · simp -dsimp -implicitDefEqProofs (maxSteps := 1000000) only [go_sem, ↓reduceIte, Nat.reduceAdd, Nat.reduceSub, Nat.reduceMul, Nat.reduceLT, Nat.reduceLeDiff, Nat.reduceEqDiff, Nat.reduceBEq, Nat.reduceBNe, Int.reduceToNat, Int.reduceLT, Int.reduceLE, Int.reduceNeg, reduceCtorEq, Int.reduceEq, Int.reduceNe, List.length_map, h1, h3, h4, h5, h6]
    refine AtFn.pure0 awake ?_
    simp -dsimp -implicitDefEqProofs (maxSteps := 1000000) only [go_sem, ↓reduceIte, Nat.reduceAdd, Nat.reduceSub, Nat.reduceMul, Nat.reduceLT, Nat.reduceLeDiff, Nat.reduceEqDiff, Nat.reduceBEq, Nat.reduceBNe, Int.reduceToNat, Int.reduceLT, Int.reduceLE, Int.reduceNeg, reduceCtorEq, Int.reduceEq, Int.reduceNe]
  simp -dsimp -implicitDefEqProofs (maxSteps := 1000000) only [go_sem, ↓reduceIte, Nat.reduceAdd, Nat.reduceSub, Nat.reduceMul, Nat.reduceLT, Nat.reduceLeDiff, Nat.reduceEqDiff, Nat.reduceBEq, Nat.reduceBNe, Int.reduceToNat, Int.reduceLT, Int.reduceLE, Int.reduceNeg, reduceCtorEq, Int.reduceEq, Int.reduceNe, List.length_map, h1, h3, h4, h5, h6]
  refine AtFn.pure0 (few rl) ?_
  by_cases h7 : rl.length ≤ 600
  rotate_left
  · simp -dsimp -implicitDefEqProofs (maxSteps := 1000000) only [go_sem, ↓reduceIte, Nat.reduceAdd, Nat.reduceSub, Nat.reduceMul, Nat.reduceLT, Nat.reduceLeDiff, Nat.reduceEqDiff, Nat.reduceBEq, Nat.reduceBNe, Int.reduceToNat, Int.reduceLT, Int.reduceLE, Int.reduceNeg, reduceCtorEq, Int.reduceEq, Int.reduceNe, h7]
    refine AtFn.pure0 awake ?_
    simp -dsimp -implicitDefEqProofs (maxSteps := 1000000) only [go_sem, ↓reduceIte, Nat.reduceAdd, Nat.reduceSub, Nat.reduceMul, Nat.reduceLT, Nat.reduceLeDiff, Nat.reduceEqDiff, Nat.reduceBEq, Nat.reduceBNe, Int.reduceToNat, Int.reduceLT, Int.reduceLE, Int.reduceNeg, reduceCtorEq, Int.reduceEq, Int.reduceNe]
  simp -dsimp -implicitDefEqProofs (maxSteps := 1000000) only [go_sem, ↓reduceIte, Nat.reduceAdd, Nat.reduceSub, Nat.reduceMul, Nat.reduceLT, Nat.reduceLeDiff, Nat.reduceEqDiff, Nat.reduceBEq, Nat.reduceBNe, Int.reduceToNat, Int.reduceLT, Int.reduceLE, Int.reduceNeg, reduceCtorEq, Int.reduceEq, Int.reduceNe, h7]
  have f1 := PFun.res (exec27 rows line (by omega) (by omega)) (execSub rows line)
  have f2 := PFun.res (rExec28 rows line (by omega) (by omega)) (rExecSub rows line)
  have g1 := execF_len rows line
  obtain ⟨R, hR⟩ : ∃ R, R = execF rows line := ⟨_, rfl⟩
  rw [← hR] at f1 f2 g1
  obtain ⟨R, e⟩ := R
  simp only at g1
  have f3 := width29 z cs rl R (by omega) (by omega) (by omega)
  have f4 := rWidth30 z cs rl R (by omega) (by omega) (by omega)
  obtain ⟨W, hW⟩ : ∃ W, W = widthF z cs rl R := ⟨_, rfl⟩
  rw [← hW] at f3 f4
  obtain ⟨W, e2⟩ := W
  refine AtFn.pure0 f1 ?_
  simp -dsimp -implicitDefEqProofs (maxSteps := 1000000) only [go_sem, ↓reduceIte, Nat.reduceAdd, Nat.reduceSub, Nat.reduceMul, Nat.reduceLT, Nat.reduceLeDiff, Nat.reduceEqDiff, Nat.reduceBEq, Nat.reduceBNe, Int.reduceToNat, Int.reduceLT, Int.reduceLE, Int.reduceNeg, reduceCtorEq, Int.reduceEq, Int.reduceNe]
  refine AtFn.pure0 f2 ?_
  simp -dsimp -implicitDefEqProofs (maxSteps := 1000000) only [go_sem, ↓reduceIte, Nat.reduceAdd, Nat.reduceSub, Nat.reduceMul, Nat.reduceLT, Nat.reduceLeDiff, Nat.reduceEqDiff, Nat.reduceBEq, Nat.reduceBNe, Int.reduceToNat, Int.reduceLT, Int.reduceLE, Int.reduceNeg, reduceCtorEq, Int.reduceEq, Int.reduceNe]
  refine AtFn.pure0 (sameTr R (by omega)) ?_
  simp -dsimp -implicitDefEqProofs (maxSteps := 1000000) only [go_sem, ↓reduceIte, Nat.reduceAdd, Nat.reduceSub, Nat.reduceMul, Nat.reduceLT, Nat.reduceLeDiff, Nat.reduceEqDiff, Nat.reduceBEq, Nat.reduceBNe, Int.reduceToNat, Int.reduceLT, Int.reduceLE, Int.reduceNeg, reduceCtorEq, Int.reduceEq, Int.reduceNe]
  refine AtFn.pure0 f3 ?_
  simp -dsimp -implicitDefEqProofs (maxSteps := 1000000) only [go_sem, ↓reduceIte, Nat.reduceAdd, Nat.reduceSub, Nat.reduceMul, Nat.reduceLT, Nat.reduceLeDiff, Nat.reduceEqDiff, Nat.reduceBEq, Nat.reduceBNe, Int.reduceToNat, Int.reduceLT, Int.reduceLE, Int.reduceNeg, reduceCtorEq, Int.reduceEq, Int.reduceNe]
  refine AtFn.pure0 f4 ?_
  simp -dsimp -implicitDefEqProofs (maxSteps := 1000000) only [go_sem, ↓reduceIte, Nat.reduceAdd, Nat.reduceSub, Nat.reduceMul, Nat.reduceLT, Nat.reduceLeDiff, Nat.reduceEqDiff, Nat.reduceBEq, Nat.reduceBNe, Int.reduceToNat, Int.reduceLT, Int.reduceLE, Int.reduceNeg, reduceCtorEq, Int.reduceEq, Int.reduceNe]
  refine AtFn.pure0 awake ?_
  simp -dsimp -implicitDefEqProofs (maxSteps := 1000000) only [go_sem, ↓reduceIte, Nat.reduceAdd, Nat.reduceSub, Nat.reduceMul, Nat.reduceLT, Nat.reduceLeDiff, Nat.reduceEqDiff, Nat.reduceBEq, Nat.reduceBNe, Int.reduceToNat, Int.reduceLT, Int.reduceLE, Int.reduceNeg, reduceCtorEq, Int.reduceEq, Int.reduceNe]
end

end Go.Proofs.Ytdamfkckjcplcaa
