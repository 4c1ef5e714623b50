/- What functions of the given program answer, part 2. Conditions: each theorem speaks for itself. -/
import Derived.Test.YtdamfkckjcplcaaBTy
import Derived.Test.YtdamfkckjcplcaaBF1
set_option linter.unusedSimpArgs false
set_option linter.unusedVariables false
namespace Go.Proofs.Ytdamfkckjcplcaa
open Go Go.Eng Go.RowKit
attribute [local go_sem ↓] qE_move qE_assign qE_pick qE_load qE_fieldAddr qE_indexAddr qE_extract qE_binOp qE_not qE_convert qE_makeFunc qE_build qE_len qE_nilCheck qE_slice vc_end vc_skip vc_ret vc_seq vc_cond vc_block vc_exit vc_region vc_draw vc_loop vc_blk vc_lp vc_o_nil vc_o vc_o_guard onK_eq oK_move oK_assign oK_pick oK_load oK_fieldAddr oK_indexAddr oK_index oK_extract oK_binOp oK_unOp oK_convert oK_makeFunc oK_nilCheck oK_slice oK_build oK_len onN_eq oK_box oK_alloc oK_buildSlice onH_eq oK_store onA_eq oK_append oK_call oK_makeMap oK_lookup oK_mapUpdate bV_add bV_sub bV_mul bV_shr bV_eql bV_neq bV_lss bV_leq bV_gtr bV_geq vcQ_nil vcQ_cons vcQ_guard Q_move Q_assign Q_pick Q_load Q_fieldAddr Q_indexAddr Q_extract Q_binOp Q_unOp Q_nilCheck Q_slice Q_build Q_len Q_box Q_alloc Q_buildSlice onQA_eq Q_call qE_index tailB_nil tailB_true onS_eq tailB_store onP_eq tailB_append onQ_eq onQB_eq loadE indexE
attribute [local go_sem] force_eq optK_some optE_some optE_none bK_v tK_t fnK_fn fyK_fn nK_ptr nK_rp pK_ptr pK_rp brK_true brK_false brK_not evA_tmp evA_const evA_func putA_some putA_none pushA_eq slots_zero slots_nil tl_nil tl_cons find_cons find_nil setN_cons setN_nil dropN_nil dropN_cons loE_none loE_some hiE_none hiE_some slE_sl slE_ro bE_i bE_eql bE_neq intsA_nil intsA_cons gdK_b gdK_u popTo_blk popTo_c popTo_lp nilE_tmp nilE_int nilE_nil srcE_ro srcE_sl dstE_sl fin_eq res_nil res_tmp res_cell tup1 tup0 optA_some frz_v frz_ro frz_g frz_fn frz_ptr frz_sl optL_some nm_v nm_ro nm_g nm_fn nm_ptr nm_sl cells_v cells_g cells_ro cells_sl cells_fn one_int one_bool one_slice oneA_v oneA_ro oneA_sl ofV_int ofV_bool ofV_slice ofV_pointer len_ro len_sl asI_int fill_nil fill_cons chunks_nil chunks_cons take_all DrawK_eq idR_eq addB_some roB_cons sg_nil sg_cons ren_unk ren_v ren_nil ren_ptr ren_sl ren_ro ren_rp iK_ro iK_sl ixE_g takeA_00 takeA_s nil_eq maskE_eq i_InlQ i_tup2 i_oneMap i_RenF_nil i_RenF_cons i_cut_nil i_cut_cons wrap_wr brK_dec maskH_eq upd_get slots_succ Cl_v Cl_ro Cl_rp Cl_fn Cl_g Cl_t Bool.false_eq_true decide_true decide_false beq_self_eq_true true_and and_true ne_eq not_true not_false_eq_true List.elem_cons List.elem_nil List.contains_cons List.contains_nil List.getD_cons_zero List.getD_cons_succ Int.cast_ofNat_Int Bool.or_true Bool.true_or Bool.or_false Bool.false_or if_true if_false List.toList_toArray List.map_cons List.map_nil List.cons_append List.nil_append List.append_nil List.flatMap_cons List.flatMap_nil List.getElem?_cons_zero List.getElem?_cons_succ List.length_cons List.length_nil List.drop_succ_cons List.drop_zero List.take_succ_cons List.take_zero List.all_cons List.all_nil List.set_cons_zero List.set_cons_succ Option.bind_some Option.bind_none Option.map_some Option.map_none List.headD_cons List.tail_cons List.getElem?_toArray beq_true beq_false Bool.not_true Bool.not_false Bool.true_and Bool.and_true Bool.false_and Bool.and_false newCh List.replicate_succ List.replicate_zero Option.some.injEq exists_eq_left' sg_nil sg_cons List.mem_cons List.not_mem_nil forall_eq_or_imp forall_eq false_implies implies_true or_false false_or false_and and_false or_true true_or exists_false Option.isSome_some Option.isSome_none List.range_zero
attribute [local go_sem] T.sz3 T.by3 T.ag3 T.ik3 T.us3 T.ze3 T.sz4 T.ag4 T.sz22 T.ag22 T.sl22 T.sz28 T.ag28 T.ze28 T.bu28 T.sz32 T.ag32 T.sl32 T.ar32 T.pt32 T.ik32 T.us32 T.sz33 T.ag33 T.sl33 T.ar33 T.pt33 T.ik33 T.us33 T.sz40 T.ag40 T.sl40 T.ik40 T.us40 T.sz42 T.ag42 T.ze42 T.fl42_0 T.bu42 T.sz46 T.ag46 T.sl46 T.sz48 T.ag48 T.ze48 T.fl48_0 T.fl48_1 T.fl48_2 T.bu48 T.sz50 T.by50 T.ag50 T.ze50 T.fl50_0 T.fl50_1 T.fl50_2 T.fl50_3 T.bu50 T.sz54 T.ag54 T.sz56 T.ag56 T.ze56 T.fl56_0 T.fl56_1 T.fl56_2 T.fl56_3 T.bu56 T.sz58 T.by58 T.ag58 T.ze58 T.fl58_0 T.fl58_1 T.bu58 T.sz63 T.ag63 T.ze63 T.fl63_0 T.fl63_1 T.fl63_2 T.fl63_3 T.bu63 T.sz70 T.ag70 T.ze70 T.bu70 T.ze77 T.fl77_0 T.fl77_1 T.fl77_2 T.fl77_3 T.fl77_4 T.bu77 T.sz83 T.ag83 T.sl83 T.ar83 T.sz95 T.ag95 T.ze97 T.fl97_0 T.fl97_1 T.bu97 T.ag101 T.ik109 T.us109 T.ag112
section
set_option maxRecDepth 20000
attribute [local go_sem] clIntsL clRusL clSets
/-- The first i and the last i are put in each other's places. -/
def swp (i : Nat) (q : List Int) : List Int := (List.range q.length).map fun k => if k < i ∨ q.length ≤ k + i then q.getD (q.length - 1 - k) 0 else q.getD k 0
theorem swp_len (i : Nat) (q : List Int) : (swp i q).length = q.length := by simp [swp]
theorem swp_get (i k : Nat) (q : List Int) (hk : k < q.length) : (swp i q).getD k 0 = if k < i ∨ q.length ≤ k + i then q.getD (q.length - 1 - k) 0 else q.getD k 0 := by
  simp [swp, List.getD, hk]
theorem ext0 {l m : List Int} (h : l.length = m.length) (hg : ∀ k, k < l.length → l.getD k 0 = m.getD k 0) : l = m := by
  apply List.ext_getElem h
  intro k h1 h2
  have := hg k h1
  simpa [List.getD, h1, h2] using this
theorem swp_zero (q : List Int) : swp 0 q = q := by
  refine ext0 (swp_len _ _) fun k hk => ?_
  rw [swp_len] at hk
  rw [swp_get _ _ _ hk, if_neg (by omega)]
theorem swp_full (i : Nat) (q : List Int) (h : q.length ≤ 2 * i + 1) : swp i q = q.reverse := by
  refine ext0 (by simp [swp_len]) fun k hk => ?_
  rw [swp_len] at hk
  rw [swp_get _ _ _ hk]
  have e : q.reverse.getD k 0 = q.getD (q.length - 1 - k) 0 := by
    simp [List.getD, List.getElem?_reverse hk]
  rw [e]
  split
  · rfl
  · have : k = q.length - 1 - k := by omega
    rw [← this]
theorem swp_step (i : Nat) (q : List Int) (h : 2 * i + 1 < q.length) : ((swp i q).set i (q.getD (q.length - 1 - i) 0)).set (q.length - 1 - i) (q.getD i 0) = swp (i + 1) q := by
  refine ext0 (by simp [swp_len]) fun k hk => ?_
  simp only [List.length_set, swp_len] at hk
  rw [getSet _ _ _ _ (by simp only [List.length_set, swp_len]; omega), getSet _ _ _ _ (by rw [swp_len]; omega), swp_get _ _ _ hk, swp_get _ _ _ hk]
  by_cases h1 : q.length - 1 - i = k
  · rw [if_pos h1, if_pos (by omega), ← h1]
    congr 1; omega
  · rw [if_neg h1]
    by_cases h2 : i = k
    · rw [if_pos h2, if_pos (by omega), ← h2]
    · rw [if_neg h2]
      by_cases h3 : k < i ∨ q.length ≤ k + i
      · rw [if_pos h3, if_pos (by omega)]
      · rw [if_neg h3, if_neg (by omega)]
theorem takeMap (q : List Int) : (q.map fun x => [I x]).take q.length = q.map fun x => [I x] := by rw [List.take_of_length_le (by simp)]
theorem turn_len {l : List Ru} {d : List (Int × Int)} {p c : Int} {q : List Int} {s : Nat} {t : S4} (h : turnW l d p c q s = some t) : t.d.length + t.q.length ≤ d.length + q.length + 2 := by
  unfold turnW at h
  split at h
  · cases h; simp; omega
  · split at h
    · cases h
    · repeat' split at h
      all_goals (cases h; simp; try omega)
theorem setF_len (l : List Ru) (most : Nat) : ∀ (n : Nat) (t : S4), t.d.length + t.q.length ≤ most + 1 → (setF l most n t).1.d.length ≤ most + 3
  | 0, t, h => by simp only [setF]; omega
  | n + 1, ⟨d, p, [], s⟩, h => by simp only [setF]; simp only [List.length_nil] at h; omega
  | n + 1, ⟨d, p, c :: q, s⟩, h => by
    simp only [List.length_cons] at h
    simp only [setF]
    cases ht : turnW l d p c q s with
    | none => simp only; omega
    | some t =>
      have := turn_len ht
      simp only
      split
      · simp only; omega
      · exact setF_len l most n t (by omega)
abbrev nilS : AV := .v (.slice none 0 0)
/-- What comes of a line, and the error. -/
def runF (l : List Ru) (line : List Int) : List (Int × Int) × Int :=
  if validR l && okL line then
    (if (endsL l l []).isSome then ([], 22) else
      match line with
      | [] => ([], 0)
      | p :: q => if (setF l 1999 (400001 + q.length) ⟨[], p, q, 0⟩).2 = 0 then ((setF l 1999 (400001 + q.length) ⟨[], p, q, 0⟩).1.d ++ [((setF l 1999 (400001 + q.length) ⟨[], p, q, 0⟩).1.p, 0)], 0) else ([], (setF l 1999 (400001 + q.length) ⟨[], p, q, 0⟩).2))
  else ([], 2)
def runRaw (l : List Ru) (line : List Int) : AV :=
  if validR l && okL line then
    (if (endsL l l []).isSome then .t [nilS, I 22] else
      match line with
      | [] => .t [nilS, I 0]
      | p :: q => if (setF l 1999 (400001 + q.length) ⟨[], p, q, 0⟩).2 = 0 then .t [Sets ((setF l 1999 (400001 + q.length) ⟨[], p, q, 0⟩).1.d ++ [((setF l 1999 (400001 + q.length) ⟨[], p, q, 0⟩).1.p, 0)]), I 0] else .t [nilS, I (setF l 1999 (400001 + q.length) ⟨[], p, q, 0⟩).2])
  else .t [nilS, I 2]
theorem subNil (b : AV) : Sub (.t [nilS, b]) (.t [Sets [], b]) := Sub.t2 (Sub.nil 2) b
theorem runSub (l : List Ru) (line : List Int) : Sub (runRaw l line) (.t [Sets (runF l line).1, I (runF l line).2]) := by
  unfold runRaw runF
  split
  · split
    · exact subNil _
    · cases line with
      | nil => exact subNil _
      | cons p q =>
        simp only
        split
        · exact .refl _
        · exact subNil _
  · exact subNil _
theorem clRunRaw (l : List Ru) (line : List Int) : Cl (runRaw l line) := by
  unfold runRaw
  split
  · split
    · simp [Cl_t, Cl_v]
    · cases line with
      | nil => simp [Cl_t, Cl_v]
      | cons p q =>
        simp only
        split
        · refine .t fun s hs => ?_
          simp at hs
          rcases hs with rfl | rfl
          · exact .ro (clSs _)
          · exact .v _
        · simp [Cl_t, Cl_v]
  · simp [Cl_t, Cl_v]
theorem run19 (l : List Ru) (line : List Int) (hl : l.length < 2 ^ 62) (hl2 : line.length < 2 ^ 62) : PFun Try.prog 19 [Rus l, Ints line] (runRaw l line) := by
  refine PFun.introM 400 mixed Try.func19 (by kernel_rfl) rfl (clRunRaw l line) (Nat.le_of_ble_eq_true rfl) ?_; rw [Try.ntmps19, Try.results19]
  simp -dsimp -implicitDefEqProofs (maxSteps := 1000000) only [go_sem, ↓reduceIte, Nat.reduceAdd, Nat.reduceSub, Nat.reduceMul, Nat.reduceLT, Nat.reduceLeDiff, Nat.reduceEqDiff, Nat.reduceBEq, Nat.reduceBNe, Int.reduceToNat, Int.reduceLT, Int.reduceLE, Int.reduceNeg, reduceCtorEq, Int.reduceEq, Int.reduceNe]
  refine AtFn.pure0 (valid17 l hl) ?_
  simp -dsimp -implicitDefEqProofs (maxSteps := 1000000) only [go_sem, ↓reduceIte, Nat.reduceAdd, Nat.reduceSub, Nat.reduceMul, Nat.reduceLT, Nat.reduceLeDiff, Nat.reduceEqDiff, Nat.reduceBEq, Nat.reduceBNe, Int.reduceToNat, Int.reduceLT, Int.reduceLE, Int.reduceNeg, reduceCtorEq, Int.reduceEq, Int.reduceNe]
  cases hv : validR l
  · simp -dsimp -implicitDefEqProofs (maxSteps := 1000000) only [go_sem, ↓reduceIte, Nat.reduceAdd, Nat.reduceSub, Nat.reduceMul, Nat.reduceLT, Nat.reduceLeDiff, Nat.reduceEqDiff, Nat.reduceBEq, Nat.reduceBNe, Int.reduceToNat, Int.reduceLT, Int.reduceLE, Int.reduceNeg, reduceCtorEq, Int.reduceEq, Int.reduceNe]
    simp only [runRaw, hv, Bool.false_and, Bool.false_eq_true, if_false]
  · have hl5 := (valid_iff hv).1
    simp -dsimp -implicitDefEqProofs (maxSteps := 1000000) only [go_sem, ↓reduceIte, Nat.reduceAdd, Nat.reduceSub, Nat.reduceMul, Nat.reduceLT, Nat.reduceLeDiff, Nat.reduceEqDiff, Nat.reduceBEq, Nat.reduceBNe, Int.reduceToNat, Int.reduceLT, Int.reduceLE, Int.reduceNeg, reduceCtorEq, Int.reduceEq, Int.reduceNe]
    refine AtFn.pure0 (isLine line hl2) ?_
    simp -dsimp -implicitDefEqProofs (maxSteps := 1000000) only [go_sem, ↓reduceIte, Nat.reduceAdd, Nat.reduceSub, Nat.reduceMul, Nat.reduceLT, Nat.reduceLeDiff, Nat.reduceEqDiff, Nat.reduceBEq, Nat.reduceBNe, Int.reduceToNat, Int.reduceLT, Int.reduceLE, Int.reduceNeg, reduceCtorEq, Int.reduceEq, Int.reduceNe]
    cases ho : okL line
    · simp -dsimp -implicitDefEqProofs (maxSteps := 1000000) only [go_sem, ↓reduceIte, Nat.reduceAdd, Nat.reduceSub, Nat.reduceMul, Nat.reduceLT, Nat.reduceLeDiff, Nat.reduceEqDiff, Nat.reduceBEq, Nat.reduceBNe, Int.reduceToNat, Int.reduceLT, Int.reduceLE, Int.reduceNeg, reduceCtorEq, Int.reduceEq, Int.reduceNe]
      simp only [runRaw, ho, Bool.and_false, Bool.false_eq_true, if_false]
    · simp -dsimp -implicitDefEqProofs (maxSteps := 1000000) only [go_sem, ↓reduceIte, Nat.reduceAdd, Nat.reduceSub, Nat.reduceMul, Nat.reduceLT, Nat.reduceLeDiff, Nat.reduceEqDiff, Nat.reduceBEq, Nat.reduceBNe, Int.reduceToNat, Int.reduceLT, Int.reduceLE, Int.reduceNeg, reduceCtorEq, Int.reduceEq, Int.reduceNe]
      have f := ends39 l hv
      simp only [endsR] at f
      cases he : endsL l l [] with
      | some x =>
        rw [he] at f
        refine AtFn.pure0 f ?_
        simp -dsimp -implicitDefEqProofs (maxSteps := 1000000) only [go_sem, ↓reduceIte, Nat.reduceAdd, Nat.reduceSub, Nat.reduceMul, Nat.reduceLT, Nat.reduceLeDiff, Nat.reduceEqDiff, Nat.reduceBEq, Nat.reduceBNe, Int.reduceToNat, Int.reduceLT, Int.reduceLE, Int.reduceNeg, reduceCtorEq, Int.reduceEq, Int.reduceNe]
        simp only [runRaw, hv, ho, he, Bool.and_self, Option.isSome_some, if_true]
      | none =>
        rw [he] at f
        refine AtFn.pure0 f ?_
        simp -dsimp -implicitDefEqProofs (maxSteps := 1000000) only [go_sem, ↓reduceIte, Nat.reduceAdd, Nat.reduceSub, Nat.reduceMul, Nat.reduceLT, Nat.reduceLeDiff, Nat.reduceEqDiff, Nat.reduceBEq, Nat.reduceBNe, Int.reduceToNat, Int.reduceLT, Int.reduceLE, Int.reduceNeg, reduceCtorEq, Int.reduceEq, Int.reduceNe]
        cases line with
        | nil =>
          simp -dsimp -implicitDefEqProofs (maxSteps := 1000000) only [go_sem, ↓reduceIte, Nat.reduceAdd, Nat.reduceSub, Nat.reduceMul, Nat.reduceLT, Nat.reduceLeDiff, Nat.reduceEqDiff, Nat.reduceBEq, Nat.reduceBNe, Int.reduceToNat, Int.reduceLT, Int.reduceLE, Int.reduceNeg, reduceCtorEq, Int.reduceEq, Int.reduceNe]
          intro _
          simp only [runRaw, hv, ho, he, Bool.and_self, Option.isSome_none, Bool.false_eq_true, if_false, if_true]
        | cons p q =>
          have hq5 : q.length + 1 ≤ 500 := by
            simp only [okL, Bool.and_eq_true, decide_eq_true_eq, List.length_cons] at ho
            exact ho.1
          have hl4 : l.length < 2 ^ 40 := by omega
          have hne : ¬ ((q.length + 1 : Nat) : Int) = 0 := by omega
          have e1 : (1 : Int) ≤ ((q.length + 1 : Nat) : Int) := by omega
          simp -dsimp -implicitDefEqProofs (maxSteps := 1000000) only [go_sem, ↓reduceIte, Nat.reduceAdd, Nat.reduceSub, Nat.reduceMul, Nat.reduceLT, Nat.reduceLeDiff, Nat.reduceEqDiff, Nat.reduceBEq, Nat.reduceBNe, Int.reduceToNat, Int.reduceLT, Int.reduceLE, Int.reduceNeg, reduceCtorEq, Int.reduceEq, Int.reduceNe, List.length_map, hne, true_implies]
          refine AtCode.draw 10 [([], []), ([], []), ([1], []), ([1, 2], []), ([], []), ([4], []), ([4, 5], []), ([0, 1, 2, 3, 4, 5, 6], []), ([0, 1, 2, 3, 4, 5, 6, 7], []), ([0, 1, 2, 3, 4, 5, 6, 7, 8], [])] (by kernel_rfl) ?_
          simp -dsimp -implicitDefEqProofs (maxSteps := 1000000) only [go_sem, ↓reduceIte, Nat.reduceAdd, Nat.reduceSub, Nat.reduceMul, Nat.reduceLT, Nat.reduceLeDiff, Nat.reduceEqDiff, Nat.reduceBEq, Nat.reduceBNe, Int.reduceToNat, Int.reduceLT, Int.reduceLE, Int.reduceNeg, reduceCtorEq, Int.reduceEq, Int.reduceNe, List.length_map, List.drop_succ_cons, List.drop_zero, List.take_succ_cons, Nat.reduceLeDiff, takeMap, Nat.le_refl]
          refine QFn.useN _ (clone43 q (by omega)) (by simp -dsimp -implicitDefEqProofs (maxSteps := 1000000) only [go_sem, ↓reduceIte, Nat.reduceAdd, Nat.reduceSub, Nat.reduceMul, Nat.reduceLT, Nat.reduceLeDiff, Nat.reduceEqDiff, Nat.reduceBEq, Nat.reduceBNe, Int.reduceToNat, Int.reduceLT, Int.reduceLE, Int.reduceNeg, reduceCtorEq, Int.reduceEq, Int.reduceNe]) ?_
          simp -dsimp -implicitDefEqProofs (maxSteps := 1000000) only [go_sem, ↓reduceIte, Nat.reduceAdd, Nat.reduceSub, Nat.reduceMul, Nat.reduceLT, Nat.reduceLeDiff, Nat.reduceEqDiff, Nat.reduceBEq, Nat.reduceBNe, Int.reduceToNat, Int.reduceLT, Int.reduceLE, Int.reduceNeg, reduceCtorEq, Int.reduceEq, Int.reduceNe, List.length_map]
          refine AtFn.inl 400 [] mixed Try.func44 (by kernel_rfl) rfl (by rw [Try.results44]; rfl) (Nat.le_of_ble_eq_true rfl) ?_; rw [Try.ntmps44]
          simp -dsimp -implicitDefEqProofs (maxSteps := 1000000) only [go_sem, ↓reduceIte, Nat.reduceAdd, Nat.reduceSub, Nat.reduceMul, Nat.reduceLT, Nat.reduceLeDiff, Nat.reduceEqDiff, Nat.reduceBEq, Nat.reduceBNe, Int.reduceToNat, Int.reduceLT, Int.reduceLE, Int.reduceNeg, reduceCtorEq, Int.reduceEq, Int.reduceNe]
          have e2 : wr ((q.length : Int) - 1) = (q.length : Int) - 1 := by rw [wr_in] <;> omega
          refine ⟨{i : Nat // 2 * i ≤ q.length}, fun i => ⟨28, tl [(0, .sl 2 0 q.length), (2, I i.1), (3, I ((q.length : Int) - 1 - (i.1 : Int)))], [(0, ⟨5, [[Rus l, .sl 1 0 0, .sl 2 0 q.length, I p, I 0]]⟩), (1, ⟨2, []⟩), (2, ⟨1, Cs (swp i.1 q)⟩)], 3, ⟨[tl [(8, .ptr 0 0 0)]], some (.mp none)⟩⟩, fun i => q.length - i.1,
            ⟨⟨0, by omega⟩, Le.tl0 (Ls := [[(8, .ptr 0 0 0)]]) [(0, 9), (1, 99), (2, 4)] ?_ ?_ (by simp) (by simp [sg]) ⟨by simp -dsimp -implicitDefEqProofs (maxSteps := 1000000) only [go_sem, ↓reduceIte, Nat.reduceAdd, Nat.reduceSub, Nat.reduceMul, Nat.reduceLT, Nat.reduceLeDiff, Nat.reduceEqDiff, Nat.reduceBEq, Nat.reduceBNe, Int.reduceToNat, Int.reduceLT, Int.reduceLE, Int.reduceNeg, reduceCtorEq, Int.reduceEq, Int.reduceNe], trivial⟩⟩, fun i => ?_⟩
          · simp -dsimp -implicitDefEqProofs (maxSteps := 1000000) only [go_sem, ↓reduceIte, Nat.reduceAdd, Nat.reduceSub, Nat.reduceMul, Nat.reduceLT, Nat.reduceLeDiff, Nat.reduceEqDiff, Nat.reduceBEq, Nat.reduceBNe, Int.reduceToNat, Int.reduceLT, Int.reduceLE, Int.reduceNeg, reduceCtorEq, Int.reduceEq, Int.reduceNe, e2]
            exact congrArg (Value.int IntKind.i64) (Int.sub_zero _).symm
          · simp -dsimp -implicitDefEqProofs (maxSteps := 1000000) only [go_sem, ↓reduceIte, Nat.reduceAdd, Nat.reduceSub, Nat.reduceMul, Nat.reduceLT, Nat.reduceLeDiff, Nat.reduceEqDiff, Nat.reduceBEq, Nat.reduceBNe, Int.reduceToNat, Int.reduceLT, Int.reduceLE, Int.reduceNeg, reduceCtorEq, Int.reduceEq, Int.reduceNe, swp_zero]
            exact ⟨renL_F (by simp -dsimp -implicitDefEqProofs (maxSteps := 1000000) only [go_sem, ↓reduceIte, Nat.reduceAdd, Nat.reduceSub, Nat.reduceMul, Nat.reduceLT, Nat.reduceLeDiff, Nat.reduceEqDiff, Nat.reduceBEq, Nat.reduceBNe, Int.reduceToNat, Int.reduceLT, Int.reduceLE, Int.reduceNeg, reduceCtorEq, Int.reduceEq, Int.reduceNe]), renL_cl rfl (clCs _)⟩
          · obtain ⟨i, hi⟩ := i
            simp -dsimp -implicitDefEqProofs (maxSteps := 1000000) only [go_sem, ↓reduceIte, Nat.reduceAdd, Nat.reduceSub, Nat.reduceMul, Nat.reduceLT, Nat.reduceLeDiff, Nat.reduceEqDiff, Nat.reduceBEq, Nat.reduceBNe, Int.reduceToNat, Int.reduceLT, Int.reduceLE, Int.reduceNeg, reduceCtorEq, Int.reduceEq, Int.reduceNe]
            refine ⟨fun h => ?_, fun h => ?_⟩
            · obtain ⟨jn, hjn⟩ : ∃ jn, jn = q.length - 1 - i := ⟨_, rfl⟩
              have e3 : (q.length : Int) - 1 - (i : Int) = (jn : Int) := by omega
              have hj1 : (jn : Int) < (q.length : Int) := by omega
              have hi1 : (i : Int) < (q.length : Int) := by omega
              have g1 : (Cs (swp i q))[jn]? = some [I (q.getD jn 0)] := by
                rw [getCs (by rw [swp_len]; omega), swp_get _ _ _ (by omega), if_neg (by omega)]
              have g2 : (Cs (swp i q))[i]? = some [I (q.getD i 0)] := by
                rw [getCs (by rw [swp_len]; omega), swp_get _ _ _ (by omega), if_neg (by omega)]
              have g3 : ∀ v, (Cs ((swp i q).set i v))[jn]? = some [I (q.getD jn 0)] := by
                intro v
                rw [getCs (by rw [List.length_set, swp_len]; omega), getSet _ _ _ _ (by rw [swp_len]; omega), if_neg (by omega), swp_get _ _ _ (by omega), if_neg (by omega)]
              refine AtCode.drawB 13 [([], []), ([], []), ([], [2]), ([], [2]), ([], []), ([], []), ([4, 5], []), ([4, 5, 6], []), ([], []), ([], []), ([8, 9], []), ([8, 9, 10], []), ([0, 1, 4, 5, 6, 7, 8, 9, 10, 11], []), ([0, 1, 4, 5, 6, 7, 8, 9, 10, 11, 12], []), ([0, 1, 2, 3, 4, 5, 6, 7, 8, 9, 10, 11, 12, 13], []), ([0, 1, 2, 3, 4, 5, 6, 7, 8, 9, 10, 11, 12, 13, 14], [])] [false, true, true] (by kernel_rfl) ?_
              simp -dsimp -implicitDefEqProofs (maxSteps := 1000000) only [go_sem, ↓reduceIte, Nat.reduceAdd, Nat.reduceSub, Nat.reduceMul, Nat.reduceLT, Nat.reduceLeDiff, Nat.reduceEqDiff, Nat.reduceBEq, Nat.reduceBNe, Int.reduceToNat, Int.reduceLT, Int.reduceLE, Int.reduceNeg, reduceCtorEq, Int.reduceEq, Int.reduceNe, e3, hj1, hi1, Int.natCast_nonneg, Int.toNat_natCast, Nat.zero_add, g1, g2, g3, setCs]
              have e4 : wr ((i : Int) + 1) = ((i + 1 : Nat) : Int) := by rw [wr_in] <;> omega
              have e5 : wr ((jn : Int) - 1) = (q.length : Int) - 1 - ((i + 1 : Nat) : Int) := by rw [wr_in] <;> omega
              refine ⟨by kernel_rfl, ⟨i + 1, by omega⟩, by show q.length - (i + 1) < q.length - i; omega, Le.tl (Ls := [[(8, .ptr 0 0 0)]]) [] ?_ ?_ (by simp) (by simp [sg]) ⟨by simp -dsimp -implicitDefEqProofs (maxSteps := 1000000) only [go_sem, ↓reduceIte, Nat.reduceAdd, Nat.reduceSub, Nat.reduceMul, Nat.reduceLT, Nat.reduceLeDiff, Nat.reduceEqDiff, Nat.reduceBEq, Nat.reduceBNe, Int.reduceToNat, Int.reduceLT, Int.reduceLE, Int.reduceNeg, reduceCtorEq, Int.reduceEq, Int.reduceNe], trivial⟩⟩
              · simp -dsimp -implicitDefEqProofs (maxSteps := 1000000) only [go_sem, ↓reduceIte, Nat.reduceAdd, Nat.reduceSub, Nat.reduceMul, Nat.reduceLT, Nat.reduceLeDiff, Nat.reduceEqDiff, Nat.reduceBEq, Nat.reduceBNe, Int.reduceToNat, Int.reduceLT, Int.reduceLE, Int.reduceNeg, reduceCtorEq, Int.reduceEq, Int.reduceNe, e4, e5]
              · simp -dsimp -implicitDefEqProofs (maxSteps := 1000000) only [go_sem, ↓reduceIte, Nat.reduceAdd, Nat.reduceSub, Nat.reduceMul, Nat.reduceLT, Nat.reduceLeDiff, Nat.reduceEqDiff, Nat.reduceBEq, Nat.reduceBNe, Int.reduceToNat, Int.reduceLT, Int.reduceLE, Int.reduceNeg, reduceCtorEq, Int.reduceEq, Int.reduceNe]
                refine ⟨renL_F (by simp -dsimp -implicitDefEqProofs (maxSteps := 1000000) only [go_sem, ↓reduceIte, Nat.reduceAdd, Nat.reduceSub, Nat.reduceMul, Nat.reduceLT, Nat.reduceLeDiff, Nat.reduceEqDiff, Nat.reduceBEq, Nat.reduceBNe, Int.reduceToNat, Int.reduceLT, Int.reduceLE, Int.reduceNeg, reduceCtorEq, Int.reduceEq, Int.reduceNe]), renL_cl rfl (by simp), renL_cl ?_ (clCs _)⟩
                rw [hjn, swp_step i q (by omega)]
            · rw [swp_full i q (by omega)]
              obtain ⟨r, hr⟩ : ∃ r, r = setF l 1999 (400001 + q.length) ⟨[], p, q, 0⟩ := ⟨_, rfl⟩
              have hset := set45 l 1999 hl4 (valid_iff hv).2.2 (by omega) (400001 + q.length) ⟨[], p, q, 0⟩ (by simp) (by simp only [Nat.sub_zero]; omega) (by simp only [List.length_nil]; omega)
              rw [← hr] at hset
              refine AtFn.le ⟨58, tl [(8, .ptr 0 0 0), (42, .ptr 0 0 0)], hS l ⟨[], p, q, 0⟩, 3, ⟨[], some (.mp none)⟩⟩ [.ptr 0 0 0, I (1999 : Nat)] (Le.tl (Ls := []) [] (by simp -dsimp -implicitDefEqProofs (maxSteps := 1000000) only [go_sem, ↓reduceIte, Nat.reduceAdd, Nat.reduceSub, Nat.reduceMul, Nat.reduceLT, Nat.reduceLeDiff, Nat.reduceEqDiff, Nat.reduceBEq, Nat.reduceBNe, Int.reduceToNat, Int.reduceLT, Int.reduceLE, Int.reduceNeg, reduceCtorEq, Int.reduceEq, Int.reduceNe]) ?_ (by simp) (by simp [sg]) trivial)
                (by intro fo xs ts h; cases h; exact ⟨by simp -dsimp -implicitDefEqProofs (maxSteps := 1000000) only [go_sem, ↓reduceIte, Nat.reduceAdd, Nat.reduceSub, Nat.reduceMul, Nat.reduceLT, Nat.reduceLeDiff, Nat.reduceEqDiff, Nat.reduceBEq, Nat.reduceBNe, Int.reduceToNat, Int.reduceLT, Int.reduceLE, Int.reduceNeg, reduceCtorEq, Int.reduceEq, Int.reduceNe], by simp -dsimp -implicitDefEqProofs (maxSteps := 1000000) only [go_sem, ↓reduceIte, Nat.reduceAdd, Nat.reduceSub, Nat.reduceMul, Nat.reduceLT, Nat.reduceLeDiff, Nat.reduceEqDiff, Nat.reduceBEq, Nat.reduceBNe, Int.reduceToNat, Int.reduceLT, Int.reduceLE, Int.reduceNeg, reduceCtorEq, Int.reduceEq, Int.reduceNe]; try rfl⟩) ?_
              · simp -dsimp -implicitDefEqProofs (maxSteps := 1000000) only [go_sem, ↓reduceIte, Nat.reduceAdd, Nat.reduceSub, Nat.reduceMul, Nat.reduceLT, Nat.reduceLeDiff, Nat.reduceEqDiff, Nat.reduceBEq, Nat.reduceBNe, Int.reduceToNat, Int.reduceLT, Int.reduceLE, Int.reduceNeg, reduceCtorEq, Int.reduceEq, Int.reduceNe]
                exact ⟨renL_F (by simp -dsimp -implicitDefEqProofs (maxSteps := 1000000) only [go_sem, ↓reduceIte, Nat.reduceAdd, Nat.reduceSub, Nat.reduceMul, Nat.reduceLT, Nat.reduceLeDiff, Nat.reduceEqDiff, Nat.reduceBEq, Nat.reduceBNe, Int.reduceToNat, Int.reduceLT, Int.reduceLE, Int.reduceNeg, reduceCtorEq, Int.reduceEq, Int.reduceNe]), renL_cl rfl (by simp), renL_cl rfl (clCs _)⟩
              refine AtFn.m' (h0 := hS l ⟨[], p, q, 0⟩) (hr := []) (k' := 3) id hset (MOk.id (Ls := []) (by simp) (by simp -dsimp -implicitDefEqProofs (maxSteps := 1000000) only [go_sem, ↓reduceIte, Nat.reduceAdd, Nat.reduceSub, Nat.reduceMul, Nat.reduceLT, Nat.reduceLeDiff, Nat.reduceEqDiff, Nat.reduceBEq, Nat.reduceBNe, Int.reduceToNat, Int.reduceLT, Int.reduceLE, Int.reduceNeg, reduceCtorEq, Int.reduceEq, Int.reduceNe, id_eq]) ?_ (by simp -dsimp -implicitDefEqProofs (maxSteps := 1000000) only [go_sem, ↓reduceIte, Nat.reduceAdd, Nat.reduceSub, Nat.reduceMul, Nat.reduceLT, Nat.reduceLeDiff, Nat.reduceEqDiff, Nat.reduceBEq, Nat.reduceBNe, Int.reduceToNat, Int.reduceLT, Int.reduceLE, Int.reduceNeg, reduceCtorEq, Int.reduceEq, Int.reduceNe, id_eq]) (by simp) (by simp) (by simp) ?_ (.cl (.v _)) (by simp) (by simp) (by simp)) ?_
              · simp -dsimp -implicitDefEqProofs (maxSteps := 1000000) only [go_sem, ↓reduceIte, Nat.reduceAdd, Nat.reduceSub, Nat.reduceMul, Nat.reduceLT, Nat.reduceLeDiff, Nat.reduceEqDiff, Nat.reduceBEq, Nat.reduceBNe, Int.reduceToNat, Int.reduceLT, Int.reduceLE, Int.reduceNeg, reduceCtorEq, Int.reduceEq, Int.reduceNe, id_eq]
                exact ⟨renL_F (by simp -dsimp -implicitDefEqProofs (maxSteps := 1000000) only [go_sem, ↓reduceIte, Nat.reduceAdd, Nat.reduceSub, Nat.reduceMul, Nat.reduceLT, Nat.reduceLeDiff, Nat.reduceEqDiff, Nat.reduceBEq, Nat.reduceBNe, Int.reduceToNat, Int.reduceLT, Int.reduceLE, Int.reduceNeg, reduceCtorEq, Int.reduceEq, Int.reduceNe, id_eq]), renL_cl rfl (by simp), renL_cl rfl (clCs _)⟩
              · simp -dsimp -implicitDefEqProofs (maxSteps := 1000000) only [go_sem, ↓reduceIte, Nat.reduceAdd, Nat.reduceSub, Nat.reduceMul, Nat.reduceLT, Nat.reduceLeDiff, Nat.reduceEqDiff, Nat.reduceBEq, Nat.reduceBNe, Int.reduceToNat, Int.reduceLT, Int.reduceLE, Int.reduceNeg, reduceCtorEq, Int.reduceEq, Int.reduceNe, id_eq]
                exact ⟨renL_F (by simp -dsimp -implicitDefEqProofs (maxSteps := 1000000) only [go_sem, ↓reduceIte, Nat.reduceAdd, Nat.reduceSub, Nat.reduceMul, Nat.reduceLT, Nat.reduceLeDiff, Nat.reduceEqDiff, Nat.reduceBEq, Nat.reduceBNe, Int.reduceToNat, Int.reduceLT, Int.reduceLE, Int.reduceNeg, reduceCtorEq, Int.reduceEq, Int.reduceNe, id_eq]), renL_cl rfl (clSs _), renL_cl rfl (clCs _)⟩
              have hraw : runRaw l (p :: q) = if r.2 = 0 then .t [Sets (r.1.d ++ [(r.1.p, 0)]), I 0] else .t [nilS, I r.2] := by
                simp only [runRaw, hv, ho, he, Bool.and_self, Option.isSome_none, Bool.false_eq_true, if_false, if_true, ← hr]
              rw [hraw]
              simp -dsimp -implicitDefEqProofs (maxSteps := 1000000) only [go_sem, ↓reduceIte, Nat.reduceAdd, Nat.reduceSub, Nat.reduceMul, Nat.reduceLT, Nat.reduceLeDiff, Nat.reduceEqDiff, Nat.reduceBEq, Nat.reduceBNe, Int.reduceToNat, Int.reduceLT, Int.reduceLE, Int.reduceNeg, reduceCtorEq, Int.reduceEq, Int.reduceNe]
              have hlen := setF_len l 1999 (400001 + q.length) ⟨[], p, q, 0⟩ (by simp only [List.length_nil]; omega)
              rw [← hr] at hlen
              have hdl : r.1.d.length ≤ 1099511627775 := by omega
              refine ⟨fun h1 => ?_, fun h1 => ?_⟩
              · refine AtCode.draw 10 [([], []), ([0], []), ([0, 1], []), ([0, 1, 2], []), ([], []), ([4], []), ([4, 5], []), ([4, 5, 6], []), ([4, 5, 6, 7], []), ([4, 5, 6, 7, 8], []), ([0, 1, 2, 3, 4, 5, 6, 7, 8, 9], []), ([0, 1, 2, 3, 4, 5, 6, 7, 8, 9, 10], []), ([0, 1, 2, 3, 4, 5, 6, 7, 8, 9, 10, 11], [])] (by kernel_rfl) ?_
                simp -dsimp -implicitDefEqProofs (maxSteps := 1000000) only [go_sem, ↓reduceIte, Nat.reduceAdd, Nat.reduceSub, Nat.reduceMul, Nat.reduceLT, Nat.reduceLeDiff, Nat.reduceEqDiff, Nat.reduceBEq, Nat.reduceBNe, Int.reduceToNat, Int.reduceLT, Int.reduceLE, Int.reduceNeg, reduceCtorEq, Int.reduceEq, Int.reduceNe, List.length_map, takeSs, Nat.zero_add, Nat.le_refl, hdl, snocSs]
                rw [if_pos h1]
              · rw [if_neg h1]
end

section
set_option maxRecDepth 20000
attribute [local go_sem] clIntsL clRusL clSets
abbrev hL (l : List Ru) (g : List Int) (t : S4) : List (Nat × Blk) := [(0, ⟨4, [[Rus l, .sl 1 0 t.d.length, .sl 2 g.length (t.q.length + 1), I t.s]]⟩), (1, ⟨2, Ss t.d⟩), (2, ⟨1, Cs (g ++ t.p :: t.q)⟩)]
abbrev hE (l : List Ru) (d : List (Int × Int)) (s : Nat) : List (Nat × Blk) := [(0, ⟨4, [[Rus l, .sl 1 0 d.length, .unk, I s]]⟩), (1, ⟨2, Ss d⟩)]
theorem renL_cs {σ : Nat → Nat} {ns : List Nat} {l : List (List AV)} {W : List Int} (h : l = Cs W) : RenL σ ns l (Cs W) := renL_cl h (h ▸ clCs W)
theorem renL_ss {σ : Nat → Nat} {ns : List Nat} {l : List (List AV)} {W : List (Int × Int)} (h : l = Ss W) : RenL σ ns l (Ss W) := renL_cl h (h ▸ clSs W)
end

section
set_option maxRecDepth 20000
/-- A row of a table. -/
structure Ro4 where
  f : Int
  n : Int
  ss : List (Int × Int)
  la : Int
abbrev rowC (r : Ro4) : List AV := [I r.f, I r.n, Sets r.ss, I r.la]
abbrev Tbl (rows : List Ro4) : AV := .ro 4 (rows.map rowC)
abbrev TA (rows : List Ro4) : AV := .g [Tbl rows]
theorem clRow (r : Ro4) : ∀ s ∈ rowC r, Cl s := by
  intro s hs
  simp at hs
  rcases hs with rfl | rfl | rfl | rfl
  · exact .v _
  · exact .v _
  · exact .ro (clSs _)
  · exact .v _
theorem clRows (rows : List Ro4) : (∀ c ∈ rows.map rowC, ∀ s ∈ c, Cl s) ↔ True := by
  simp only [iff_true]
  intro c hc s hs
  obtain ⟨r, _, rfl⟩ := List.mem_map.1 hc
  exact clRow r s hs
theorem clTbl (rows : List Ro4) : Cl (Tbl rows) ↔ True := iff_true_intro (.ro ((clRows rows).2 trivial))
theorem clSetsT' (l : List (Int × Int)) : Cl (Sets l) ↔ True := iff_true_intro (.ro (clSs l))
attribute [local go_sem] clIntsL clRusL clSets clRows clTbl clSetsT'
theorem setF_steps (l : List Ru) (most : Nat) : ∀ (n : Nat) (t : S4), t.s ≤ 200000 → (setF l most n t).1.s ≤ 200000
  | 0, t, h => h
  | n + 1, ⟨d, p, [], s⟩, h => h
  | n + 1, ⟨d, p, c :: q, s⟩, h => by
    simp only [setF]
    cases ht : turnW l d p c q s with
    | none => exact h
    | some t =>
      have h2 : t.s ≤ 200000 := by
        unfold turnW at ht
        simp only at h
        split at ht
        · cases ht; exact h
        · split at ht
          · cases ht
          · repeat' split at ht
            all_goals (cases ht; simp only; omega)
      simp only
      split
      · exact h2
      · exact setF_steps l most n t h2
/-- The rows of a table, and the error. -/
def compF (l : List Ru) : List Ru → List Ro4 → Nat → Nat → List Ro4 × Int
  | [], rows, _, _ => (rows, 0)
  | x :: r, rows, all, st =>
    if (setF l 2000 400003 ⟨[], x.f, [x.n], st⟩).2 = 0 then
      (if all + (setF l 2000 400003 ⟨[], x.f, [x.n], st⟩).1.d.length > 20000 then ([], 3)
       else compF l r (rows ++ [⟨x.f, x.n, (setF l 2000 400003 ⟨[], x.f, [x.n], st⟩).1.d, (setF l 2000 400003 ⟨[], x.f, [x.n], st⟩).1.p⟩]) (all + (setF l 2000 400003 ⟨[], x.f, [x.n], st⟩).1.d.length) (setF l 2000 400003 ⟨[], x.f, [x.n], st⟩).1.s)
    else ([], (setF l 2000 400003 ⟨[], x.f, [x.n], st⟩).2)
abbrev nilT : AV := .g [nilS]
def compRaw (l : List Ru) : AV := if validR l then (if (endsL l l []).isSome then .t [nilT, I 22] else if (compF l l [] 0 0).2 = 0 then .t [TA (compF l l [] 0 0).1, I 0] else .t [nilT, I (compF l l [] 0 0).2]) else .t [nilT, I 2]
theorem clCompRaw (l : List Ru) : Cl (compRaw l) := by
  unfold compRaw
  repeat' split
  all_goals first
    | (simp [Cl_t, Cl_v, Cl_g]; done)
    | (refine .t fun s hs => ?_
       simp at hs
       rcases hs with rfl | rfl
       · exact .g fun s hs => by simp at hs; subst hs; exact (clTbl _).2 trivial
       · exact .v _)
theorem Sub.g1 {a a' : AV} (h : Sub a a') : Sub (.g [a]) (.g [a']) := by
  intro X β w u hr
  cases hr with
  | g hl hR =>
    refine .g hl fun k s u hs hu => ?_
    match k with
    | 0 => simp at hs; subst hs; exact h _ _ _ _ (hR 0 a u rfl hu)
    | k + 1 => simp at hs
theorem takeRows (rows : List Ro4) : takeA 0 rows.length (rows.map rowC) = rows.map rowC := by simp [takeA]
theorem snocRows (rows : List Ro4) (f n : Int) (ss : List (Int × Int)) (la : Int) : rows.map rowC ++ [[I f, I n, Sets ss, I la]] = (rows ++ [(⟨f, n, ss, la⟩ : Ro4)]).map rowC := by simp
theorem fzRows (H : Nat → Option Blk) (ns : List Nat) (rows : List Ro4) : ((rows.map rowC).map fun ch => ch.map (fz H ns)) = rows.map rowC := by
  rw [List.map_map]
  apply List.map_congr_left
  intro r _
  simp [fz, namesA, frzA]
theorem comp24 (l : List Ru) (hl : l.length < 2 ^ 62) : PFun Try.prog 24 [Rus l] (compRaw l) := by
  refine PFun.introM 400 mixed Try.func24 (by kernel_rfl) rfl (clCompRaw l) (Nat.le_of_ble_eq_true rfl) ?_; rw [Try.ntmps24, Try.results24]
  simp -dsimp -implicitDefEqProofs (maxSteps := 1000000) only [go_sem, ↓reduceIte, Nat.reduceAdd, Nat.reduceSub, Nat.reduceMul, Nat.reduceLT, Nat.reduceLeDiff, Nat.reduceEqDiff, Nat.reduceBEq, Nat.reduceBNe, Int.reduceToNat, Int.reduceLT, Int.reduceLE, Int.reduceNeg, reduceCtorEq, Int.reduceEq, Int.reduceNe]
  refine AtFn.pure0 (valid17 l hl) ?_
  simp -dsimp -implicitDefEqProofs (maxSteps := 1000000) only [go_sem, ↓reduceIte, Nat.reduceAdd, Nat.reduceSub, Nat.reduceMul, Nat.reduceLT, Nat.reduceLeDiff, Nat.reduceEqDiff, Nat.reduceBEq, Nat.reduceBNe, Int.reduceToNat, Int.reduceLT, Int.reduceLE, Int.reduceNeg, reduceCtorEq, Int.reduceEq, Int.reduceNe]
  cases hv : validR l
  · simp -dsimp -implicitDefEqProofs (maxSteps := 1000000) only [go_sem, ↓reduceIte, Nat.reduceAdd, Nat.reduceSub, Nat.reduceMul, Nat.reduceLT, Nat.reduceLeDiff, Nat.reduceEqDiff, Nat.reduceBEq, Nat.reduceBNe, Int.reduceToNat, Int.reduceLT, Int.reduceLE, Int.reduceNeg, reduceCtorEq, Int.reduceEq, Int.reduceNe]
    simp only [compRaw, hv, Bool.false_eq_true, if_false]
  · have hl5 := (valid_iff hv).1
    simp -dsimp -implicitDefEqProofs (maxSteps := 1000000) only [go_sem, ↓reduceIte, Nat.reduceAdd, Nat.reduceSub, Nat.reduceMul, Nat.reduceLT, Nat.reduceLeDiff, Nat.reduceEqDiff, Nat.reduceBEq, Nat.reduceBNe, Int.reduceToNat, Int.reduceLT, Int.reduceLE, Int.reduceNeg, reduceCtorEq, Int.reduceEq, Int.reduceNe]
    have f := ends39 l hv
    simp only [endsR] at f
    cases he : endsL l l [] with
    | some x =>
      rw [he] at f
      refine AtFn.pure0 f ?_
      simp -dsimp -implicitDefEqProofs (maxSteps := 1000000) only [go_sem, ↓reduceIte, Nat.reduceAdd, Nat.reduceSub, Nat.reduceMul, Nat.reduceLT, Nat.reduceLeDiff, Nat.reduceEqDiff, Nat.reduceBEq, Nat.reduceBNe, Int.reduceToNat, Int.reduceLT, Int.reduceLE, Int.reduceNeg, reduceCtorEq, Int.reduceEq, Int.reduceNe]
      simp only [compRaw, hv, he, Option.isSome_some, if_true]
    | none =>
      rw [he] at f
      refine AtFn.pure0 f ?_
      simp -dsimp -implicitDefEqProofs (maxSteps := 1000000) only [go_sem, ↓reduceIte, Nat.reduceAdd, Nat.reduceSub, Nat.reduceMul, Nat.reduceLT, Nat.reduceLeDiff, Nat.reduceEqDiff, Nat.reduceBEq, Nat.reduceBNe, Int.reduceToNat, Int.reduceLT, Int.reduceLE, Int.reduceNeg, reduceCtorEq, Int.reduceEq, Int.reduceNe, List.length_map]
      have hraw : compRaw l = if (compF l l [] 0 0).2 = 0 then .t [TA (compF l l [] 0 0).1, I 0] else .t [nilT, I (compF l l [] 0 0).2] := by
        simp only [compRaw, hv, he, Option.isSome_none, Bool.false_eq_true, if_false, if_true]
      rw [hraw]
      obtain ⟨res, hres⟩ : ∃ res, res = compF l l [] 0 0 := ⟨_, rfl⟩
      rw [← hres]
      refine ⟨{p : Nat × List Ro4 × Nat × Nat // p.1 ≤ l.length ∧ p.2.2.1 ≤ 20000 ∧ p.2.2.2 ≤ 200000 ∧ p.2.1.length ≤ p.1 ∧ res = compF l (l.drop p.1) p.2.1 p.2.2.1 p.2.2.2}, fun p => ⟨80, tl [(0, Rus l), (2, .ptr 0 0 0), (6, .ptr 1 0 0), (7, I p.1.2.2.1), (8, I p.1.2.2.2), (25, Rus l), (26, I l.length), (27, I p.1.1)], [(0, ⟨1, [[nilS]]⟩), (1, ⟨1, [[.sl 2 0 p.1.2.1.length]]⟩), (2, ⟨4, p.1.2.1.map rowC⟩)], 3, ⟨[], some (.mp none)⟩⟩, fun p => l.length - p.1.1,
        ⟨⟨(0, [], 0, 0), by simp, by simp, by simp, by simp, by simpa using hres⟩, Le.tl0 (Ls := []) [(1, 2), (2, 99)] (by simp -dsimp -implicitDefEqProofs (maxSteps := 1000000) only [go_sem, ↓reduceIte, Nat.reduceAdd, Nat.reduceSub, Nat.reduceMul, Nat.reduceLT, Nat.reduceLeDiff, Nat.reduceEqDiff, Nat.reduceBEq, Nat.reduceBNe, Int.reduceToNat, Int.reduceLT, Int.reduceLE, Int.reduceNeg, reduceCtorEq, Int.reduceEq, Int.reduceNe]; try exact ⟨rfl, rfl⟩) ?_ (by simp) (by simp [sg]) trivial⟩, fun p => ?_⟩
      · simp -dsimp -implicitDefEqProofs (maxSteps := 1000000) only [go_sem, ↓reduceIte, Nat.reduceAdd, Nat.reduceSub, Nat.reduceMul, Nat.reduceLT, Nat.reduceLeDiff, Nat.reduceEqDiff, Nat.reduceBEq, Nat.reduceBNe, Int.reduceToNat, Int.reduceLT, Int.reduceLE, Int.reduceNeg, reduceCtorEq, Int.reduceEq, Int.reduceNe]
        exact ⟨renL_F (by simp -dsimp -implicitDefEqProofs (maxSteps := 1000000) only [go_sem, ↓reduceIte, Nat.reduceAdd, Nat.reduceSub, Nat.reduceMul, Nat.reduceLT, Nat.reduceLeDiff, Nat.reduceEqDiff, Nat.reduceBEq, Nat.reduceBNe, Int.reduceToNat, Int.reduceLT, Int.reduceLE, Int.reduceNeg, reduceCtorEq, Int.reduceEq, Int.reduceNe]), renL_F (by simp -dsimp -implicitDefEqProofs (maxSteps := 1000000) only [go_sem, ↓reduceIte, Nat.reduceAdd, Nat.reduceSub, Nat.reduceMul, Nat.reduceLT, Nat.reduceLeDiff, Nat.reduceEqDiff, Nat.reduceBEq, Nat.reduceBNe, Int.reduceToNat, Int.reduceLT, Int.reduceLE, Int.reduceNeg, reduceCtorEq, Int.reduceEq, Int.reduceNe])⟩
      · obtain ⟨⟨i, rows, all, st⟩, hi, ha, hs, hrl, hall⟩ := p
        simp only at hi ha hs hrl hall
        simp -dsimp -implicitDefEqProofs (maxSteps := 1000000) only [go_sem, ↓reduceIte, Nat.reduceAdd, Nat.reduceSub, Nat.reduceMul, Nat.reduceLT, Nat.reduceLeDiff, Nat.reduceEqDiff, Nat.reduceBEq, Nat.reduceBNe, Int.reduceToNat, Int.reduceLT, Int.reduceLE, Int.reduceNeg, reduceCtorEq, Int.reduceEq, Int.reduceNe, List.length_map]
        refine ⟨fun h => ?_, fun h => ?_⟩
        · have hlt : i < l.length := by omega
          simp -dsimp -implicitDefEqProofs (maxSteps := 1000000) only [go_sem, ↓reduceIte, Nat.reduceAdd, Nat.reduceSub, Nat.reduceMul, Nat.reduceLT, Nat.reduceLeDiff, Nat.reduceEqDiff, Nat.reduceBEq, Nat.reduceBNe, Int.reduceToNat, Int.reduceLT, Int.reduceLE, Int.reduceNeg, reduceCtorEq, Int.reduceEq, Int.reduceNe, List.getElem?_map, Int.toNat_natCast, Int.natCast_nonneg, getR hlt]
          obtain ⟨x, hx⟩ : ∃ x, x = l.getD i zR := ⟨_, rfl⟩
          rw [← hx]
          have hdr : l.drop i = x :: l.drop (i + 1) := by
            have e : x = l[i] := by rw [hx]; simp [List.getD, hlt]
            rw [e]
            exact List.drop_eq_getElem_cons hlt
          rw [hdr] at hall
          simp only [compF] at hall
          obtain ⟨r, hr⟩ : ∃ r, r = setF l 2000 400003 ⟨[], x.f, [x.n], st⟩ := ⟨_, rfl⟩
          have hset := set45 l 2000 (by omega) (valid_iff hv).2.2 (by omega) 400003 ⟨[], x.f, [x.n], st⟩ hs (by simp only [List.length_cons, List.length_nil]; omega) (by simp only [List.length_cons, List.length_nil]; omega)
          have hlen := setF_len l 2000 400003 ⟨[], x.f, [x.n], st⟩ (by simp only [List.length_cons, List.length_nil]; omega)
          have hst := setF_steps l 2000 400003 ⟨[], x.f, [x.n], st⟩ hs
          rw [← hr] at hset hlen hst hall
          refine AtFn.le ⟨80, tl [(0, Rus l), (2, .ptr 3 0 0), (6, .ptr 4 0 0), (7, I all), (8, I st), (10, .ptr 6 0 0), (11, .ptr 0 0 0), (25, Rus l), (26, I l.length), (27, I i), (40, .ptr 0 0 0)], hS l ⟨[], x.f, [x.n], st⟩ ++ [(3, ⟨1, [[nilS]]⟩), (4, ⟨1, [[.sl 5 0 rows.length]]⟩), (5, ⟨4, rows.map rowC⟩), (6, ⟨4, [ruC x]⟩)], 7, ⟨[], some (.mp none)⟩⟩ [.ptr 0 0 0, I (2000 : Nat)] (Le.tl0 (Ls := []) [(0, 5), (1, 99), (2, 4), (3, 0), (4, 1), (5, 2), (6, 3)] (by simp -dsimp -implicitDefEqProofs (maxSteps := 1000000) only [go_sem, ↓reduceIte, Nat.reduceAdd, Nat.reduceSub, Nat.reduceMul, Nat.reduceLT, Nat.reduceLeDiff, Nat.reduceEqDiff, Nat.reduceBEq, Nat.reduceBNe, Int.reduceToNat, Int.reduceLT, Int.reduceLE, Int.reduceNeg, reduceCtorEq, Int.reduceEq, Int.reduceNe]) ?_ (by simp) (by simp [sg]) trivial)
            (by intro fo xs ts h; cases h; exact ⟨by simp -dsimp -implicitDefEqProofs (maxSteps := 1000000) only [go_sem, ↓reduceIte, Nat.reduceAdd, Nat.reduceSub, Nat.reduceMul, Nat.reduceLT, Nat.reduceLeDiff, Nat.reduceEqDiff, Nat.reduceBEq, Nat.reduceBNe, Int.reduceToNat, Int.reduceLT, Int.reduceLE, Int.reduceNeg, reduceCtorEq, Int.reduceEq, Int.reduceNe], by simp -dsimp -implicitDefEqProofs (maxSteps := 1000000) only [go_sem, ↓reduceIte, Nat.reduceAdd, Nat.reduceSub, Nat.reduceMul, Nat.reduceLT, Nat.reduceLeDiff, Nat.reduceEqDiff, Nat.reduceBEq, Nat.reduceBNe, Int.reduceToNat, Int.reduceLT, Int.reduceLE, Int.reduceNeg, reduceCtorEq, Int.reduceEq, Int.reduceNe]; try rfl⟩) ?_
          · simp -dsimp -implicitDefEqProofs (maxSteps := 1000000) only [go_sem, ↓reduceIte, Nat.reduceAdd, Nat.reduceSub, Nat.reduceMul, Nat.reduceLT, Nat.reduceLeDiff, Nat.reduceEqDiff, Nat.reduceBEq, Nat.reduceBNe, Int.reduceToNat, Int.reduceLT, Int.reduceLE, Int.reduceNeg, reduceCtorEq, Int.reduceEq, Int.reduceNe]
            exact ⟨renL_F (by simp -dsimp -implicitDefEqProofs (maxSteps := 1000000) only [go_sem, ↓reduceIte, Nat.reduceAdd, Nat.reduceSub, Nat.reduceMul, Nat.reduceLT, Nat.reduceLeDiff, Nat.reduceEqDiff, Nat.reduceBEq, Nat.reduceBNe, Int.reduceToNat, Int.reduceLT, Int.reduceLE, Int.reduceNeg, reduceCtorEq, Int.reduceEq, Int.reduceNe]), renL_cs (W := [x.n]) rfl, renL_F (by simp -dsimp -implicitDefEqProofs (maxSteps := 1000000) only [go_sem, ↓reduceIte, Nat.reduceAdd, Nat.reduceSub, Nat.reduceMul, Nat.reduceLT, Nat.reduceLeDiff, Nat.reduceEqDiff, Nat.reduceBEq, Nat.reduceBNe, Int.reduceToNat, Int.reduceLT, Int.reduceLE, Int.reduceNeg, reduceCtorEq, Int.reduceEq, Int.reduceNe]), renL_F (by simp -dsimp -implicitDefEqProofs (maxSteps := 1000000) only [go_sem, ↓reduceIte, Nat.reduceAdd, Nat.reduceSub, Nat.reduceMul, Nat.reduceLT, Nat.reduceLeDiff, Nat.reduceEqDiff, Nat.reduceBEq, Nat.reduceBNe, Int.reduceToNat, Int.reduceLT, Int.reduceLE, Int.reduceNeg, reduceCtorEq, Int.reduceEq, Int.reduceNe]), renL_cl rfl (by simp -dsimp -implicitDefEqProofs (maxSteps := 1000000) only [go_sem, ↓reduceIte, Nat.reduceAdd, Nat.reduceSub, Nat.reduceMul, Nat.reduceLT, Nat.reduceLeDiff, Nat.reduceEqDiff, Nat.reduceBEq, Nat.reduceBNe, Int.reduceToNat, Int.reduceLT, Int.reduceLE, Int.reduceNeg, reduceCtorEq, Int.reduceEq, Int.reduceNe]), renL_F (by simp -dsimp -implicitDefEqProofs (maxSteps := 1000000) only [go_sem, ↓reduceIte, Nat.reduceAdd, Nat.reduceSub, Nat.reduceMul, Nat.reduceLT, Nat.reduceLeDiff, Nat.reduceEqDiff, Nat.reduceBEq, Nat.reduceBNe, Int.reduceToNat, Int.reduceLT, Int.reduceLE, Int.reduceNeg, reduceCtorEq, Int.reduceEq, Int.reduceNe])⟩
          refine AtFn.m' (h0 := hS l ⟨[], x.f, [x.n], st⟩) (hr := [(3, ⟨1, [[nilS]]⟩), (4, ⟨1, [[.sl 5 0 rows.length]]⟩), (5, ⟨4, rows.map rowC⟩), (6, ⟨4, [ruC x]⟩)]) (k' := 7) id hset (MOk.id (Ls := []) (by simp) (by simp -dsimp -implicitDefEqProofs (maxSteps := 1000000) only [go_sem, ↓reduceIte, Nat.reduceAdd, Nat.reduceSub, Nat.reduceMul, Nat.reduceLT, Nat.reduceLeDiff, Nat.reduceEqDiff, Nat.reduceBEq, Nat.reduceBNe, Int.reduceToNat, Int.reduceLT, Int.reduceLE, Int.reduceNeg, reduceCtorEq, Int.reduceEq, Int.reduceNe, id_eq]) ?_ (by simp -dsimp -implicitDefEqProofs (maxSteps := 1000000) only [go_sem, ↓reduceIte, Nat.reduceAdd, Nat.reduceSub, Nat.reduceMul, Nat.reduceLT, Nat.reduceLeDiff, Nat.reduceEqDiff, Nat.reduceBEq, Nat.reduceBNe, Int.reduceToNat, Int.reduceLT, Int.reduceLE, Int.reduceNeg, reduceCtorEq, Int.reduceEq, Int.reduceNe, id_eq]) (by simp) ?_ (by simp) ?_ (.cl (.v _)) (by simp) (by simp) (by simp)) ?_
          · simp -dsimp -implicitDefEqProofs (maxSteps := 1000000) only [go_sem, ↓reduceIte, Nat.reduceAdd, Nat.reduceSub, Nat.reduceMul, Nat.reduceLT, Nat.reduceLeDiff, Nat.reduceEqDiff, Nat.reduceBEq, Nat.reduceBNe, Int.reduceToNat, Int.reduceLT, Int.reduceLE, Int.reduceNeg, reduceCtorEq, Int.reduceEq, Int.reduceNe, id_eq]
            exact ⟨renL_F (by simp -dsimp -implicitDefEqProofs (maxSteps := 1000000) only [go_sem, ↓reduceIte, Nat.reduceAdd, Nat.reduceSub, Nat.reduceMul, Nat.reduceLT, Nat.reduceLeDiff, Nat.reduceEqDiff, Nat.reduceBEq, Nat.reduceBNe, Int.reduceToNat, Int.reduceLT, Int.reduceLE, Int.reduceNeg, reduceCtorEq, Int.reduceEq, Int.reduceNe, id_eq]), renL_cl rfl (by simp), renL_cs (W := [x.n]) rfl⟩
          · simp -dsimp -implicitDefEqProofs (maxSteps := 1000000) only [go_sem, ↓reduceIte, Nat.reduceAdd, Nat.reduceSub, Nat.reduceMul, Nat.reduceLT, Nat.reduceLeDiff, Nat.reduceEqDiff, Nat.reduceBEq, Nat.reduceBNe, Int.reduceToNat, Int.reduceLT, Int.reduceLE, Int.reduceNeg, reduceCtorEq, Int.reduceEq, Int.reduceNe, id_eq]
            exact ⟨renL_F (by simp -dsimp -implicitDefEqProofs (maxSteps := 1000000) only [go_sem, ↓reduceIte, Nat.reduceAdd, Nat.reduceSub, Nat.reduceMul, Nat.reduceLT, Nat.reduceLeDiff, Nat.reduceEqDiff, Nat.reduceBEq, Nat.reduceBNe, Int.reduceToNat, Int.reduceLT, Int.reduceLE, Int.reduceNeg, reduceCtorEq, Int.reduceEq, Int.reduceNe, id_eq]), renL_F (by simp -dsimp -implicitDefEqProofs (maxSteps := 1000000) only [go_sem, ↓reduceIte, Nat.reduceAdd, Nat.reduceSub, Nat.reduceMul, Nat.reduceLT, Nat.reduceLeDiff, Nat.reduceEqDiff, Nat.reduceBEq, Nat.reduceBNe, Int.reduceToNat, Int.reduceLT, Int.reduceLE, Int.reduceNeg, reduceCtorEq, Int.reduceEq, Int.reduceNe, id_eq]), renL_cl rfl (by simp -dsimp -implicitDefEqProofs (maxSteps := 1000000) only [go_sem, ↓reduceIte, Nat.reduceAdd, Nat.reduceSub, Nat.reduceMul, Nat.reduceLT, Nat.reduceLeDiff, Nat.reduceEqDiff, Nat.reduceBEq, Nat.reduceBNe, Int.reduceToNat, Int.reduceLT, Int.reduceLE, Int.reduceNeg, reduceCtorEq, Int.reduceEq, Int.reduceNe]), renL_F (by simp -dsimp -implicitDefEqProofs (maxSteps := 1000000) only [go_sem, ↓reduceIte, Nat.reduceAdd, Nat.reduceSub, Nat.reduceMul, Nat.reduceLT, Nat.reduceLeDiff, Nat.reduceEqDiff, Nat.reduceBEq, Nat.reduceBNe, Int.reduceToNat, Int.reduceLT, Int.reduceLE, Int.reduceNeg, reduceCtorEq, Int.reduceEq, Int.reduceNe, id_eq])⟩
          · simp -dsimp -implicitDefEqProofs (maxSteps := 1000000) only [go_sem, ↓reduceIte, Nat.reduceAdd, Nat.reduceSub, Nat.reduceMul, Nat.reduceLT, Nat.reduceLeDiff, Nat.reduceEqDiff, Nat.reduceBEq, Nat.reduceBNe, Int.reduceToNat, Int.reduceLT, Int.reduceLE, Int.reduceNeg, reduceCtorEq, Int.reduceEq, Int.reduceNe, id_eq]
            exact ⟨renL_F (by simp -dsimp -implicitDefEqProofs (maxSteps := 1000000) only [go_sem, ↓reduceIte, Nat.reduceAdd, Nat.reduceSub, Nat.reduceMul, Nat.reduceLT, Nat.reduceLeDiff, Nat.reduceEqDiff, Nat.reduceBEq, Nat.reduceBNe, Int.reduceToNat, Int.reduceLT, Int.reduceLE, Int.reduceNeg, reduceCtorEq, Int.reduceEq, Int.reduceNe, id_eq]), renL_cl rfl (clSs _), renL_cl rfl (clCs _)⟩
          have e5 : wr ((all : Int) + (r.1.d.length : Int)) = ((all + r.1.d.length : Nat) : Int) := by rw [wr_in] <;> omega
          simp -dsimp -implicitDefEqProofs (maxSteps := 1000000) only [go_sem, ↓reduceIte, Nat.reduceAdd, Nat.reduceSub, Nat.reduceMul, Nat.reduceLT, Nat.reduceLeDiff, Nat.reduceEqDiff, Nat.reduceBEq, Nat.reduceBNe, Int.reduceToNat, Int.reduceLT, Int.reduceLE, Int.reduceNeg, reduceCtorEq, Int.reduceEq, Int.reduceNe, List.length_map, e5]
          refine ⟨fun h1 => ?_, fun h1 => ?_⟩
          · rw [if_pos h1] at hall
            refine ⟨fun h2 => ?_, fun h2 => ?_⟩
            · rw [if_pos (by omega)] at hall
              rw [hall, if_neg (by decide)]
            · rw [if_neg (by omega)] at hall
              have hrl2 : rows.length ≤ 1099511627775 := by omega
              have e6 : wr ((i : Int) + 1) = ((i + 1 : Nat) : Int) := by rw [wr_in] <;> omega
              refine AtCode.le ⟨80, tl [(0, Rus l), (2, .ptr 3 0 0), (6, .ptr 4 0 0), (7, I (all + r.1.d.length : Nat)), (8, I r.1.s), (10, .ptr 6 0 0), (11, .ptr 0 0 0), (25, Rus l), (26, I l.length), (27, I i)], [(0, ⟨5, [[Rus l, Sets r.1.d, .unk, I r.1.p, I r.1.s]]⟩), (3, ⟨1, [[nilS]]⟩), (4, ⟨1, [[.sl 5 0 rows.length]]⟩), (5, ⟨4, rows.map rowC⟩), (6, ⟨4, [ruC x]⟩)], 7, ⟨[], some (.mp none)⟩⟩ (Le.ftl (Ls := []) [1] [] (by simp -dsimp -implicitDefEqProofs (maxSteps := 1000000) only [go_sem, ↓reduceIte, Nat.reduceAdd, Nat.reduceSub, Nat.reduceMul, Nat.reduceLT, Nat.reduceLeDiff, Nat.reduceEqDiff, Nat.reduceBEq, Nat.reduceBNe, Int.reduceToNat, Int.reduceLT, Int.reduceLE, Int.reduceNeg, reduceCtorEq, Int.reduceEq, Int.reduceNe, fz, fzB, List.length_map, Nat.zero_add, Nat.le_refl, takeSs]) ?_ (by simp) (by simp [sg]) trivial) ?_
              · simp -dsimp -implicitDefEqProofs (maxSteps := 1000000) only [go_sem, ↓reduceIte, Nat.reduceAdd, Nat.reduceSub, Nat.reduceMul, Nat.reduceLT, Nat.reduceLeDiff, Nat.reduceEqDiff, Nat.reduceBEq, Nat.reduceBNe, Int.reduceToNat, Int.reduceLT, Int.reduceLE, Int.reduceNeg, reduceCtorEq, Int.reduceEq, Int.reduceNe, fzB, fzRows]
                simp -dsimp -implicitDefEqProofs (maxSteps := 1000000) only [go_sem, ↓reduceIte, Nat.reduceAdd, Nat.reduceSub, Nat.reduceMul, Nat.reduceLT, Nat.reduceLeDiff, Nat.reduceEqDiff, Nat.reduceBEq, Nat.reduceBNe, Int.reduceToNat, Int.reduceLT, Int.reduceLE, Int.reduceNeg, reduceCtorEq, Int.reduceEq, Int.reduceNe, fz, List.length_map, Nat.zero_add, Nat.le_refl, takeSs]
                exact ⟨renL_F (by simp -dsimp -implicitDefEqProofs (maxSteps := 1000000) only [go_sem, ↓reduceIte, Nat.reduceAdd, Nat.reduceSub, Nat.reduceMul, Nat.reduceLT, Nat.reduceLeDiff, Nat.reduceEqDiff, Nat.reduceBEq, Nat.reduceBNe, Int.reduceToNat, Int.reduceLT, Int.reduceLE, Int.reduceNeg, reduceCtorEq, Int.reduceEq, Int.reduceNe]), renL_F (by simp -dsimp -implicitDefEqProofs (maxSteps := 1000000) only [go_sem, ↓reduceIte, Nat.reduceAdd, Nat.reduceSub, Nat.reduceMul, Nat.reduceLT, Nat.reduceLeDiff, Nat.reduceEqDiff, Nat.reduceBEq, Nat.reduceBNe, Int.reduceToNat, Int.reduceLT, Int.reduceLE, Int.reduceNeg, reduceCtorEq, Int.reduceEq, Int.reduceNe]), renL_F (by simp -dsimp -implicitDefEqProofs (maxSteps := 1000000) only [go_sem, ↓reduceIte, Nat.reduceAdd, Nat.reduceSub, Nat.reduceMul, Nat.reduceLT, Nat.reduceLeDiff, Nat.reduceEqDiff, Nat.reduceBEq, Nat.reduceBNe, Int.reduceToNat, Int.reduceLT, Int.reduceLE, Int.reduceNeg, reduceCtorEq, Int.reduceEq, Int.reduceNe]), renL_cl rfl (by simp -dsimp -implicitDefEqProofs (maxSteps := 1000000) only [go_sem, ↓reduceIte, Nat.reduceAdd, Nat.reduceSub, Nat.reduceMul, Nat.reduceLT, Nat.reduceLeDiff, Nat.reduceEqDiff, Nat.reduceBEq, Nat.reduceBNe, Int.reduceToNat, Int.reduceLT, Int.reduceLE, Int.reduceNeg, reduceCtorEq, Int.reduceEq, Int.reduceNe]), renL_F (by simp -dsimp -implicitDefEqProofs (maxSteps := 1000000) only [go_sem, ↓reduceIte, Nat.reduceAdd, Nat.reduceSub, Nat.reduceMul, Nat.reduceLT, Nat.reduceLeDiff, Nat.reduceEqDiff, Nat.reduceBEq, Nat.reduceBNe, Int.reduceToNat, Int.reduceLT, Int.reduceLE, Int.reduceNeg, reduceCtorEq, Int.reduceEq, Int.reduceNe])⟩
              refine AtCode.draw 16 [([], []), ([0], []), ([], []), ([2], []), ([], []), ([4], []), ([], []), ([6], []), ([6, 7], []), ([6, 7, 8], []), ([], []), ([10], []), ([10, 11], []), ([10, 11, 12], []), ([2, 3, 4, 5, 6, 7, 8, 9, 10, 11, 12, 13], []), ([2, 3, 4, 5, 6, 7, 8, 9, 10, 11, 12, 13, 14], []), ([0, 1, 2, 3, 4, 5, 6, 7, 8, 9, 10, 11, 12, 13, 14, 15], []), ([0, 1, 2, 3, 4, 5, 6, 7, 8, 9, 10, 11, 12, 13, 14, 15, 16], []), ([0, 1, 2, 3, 4, 5, 6, 7, 8, 9, 10, 11, 12, 13, 14, 15, 16, 17], [])] (by kernel_rfl) ?_
              simp -dsimp -implicitDefEqProofs (maxSteps := 1000000) only [go_sem, ↓reduceIte, Nat.reduceAdd, Nat.reduceSub, Nat.reduceMul, Nat.reduceLT, Nat.reduceLeDiff, Nat.reduceEqDiff, Nat.reduceBEq, Nat.reduceBNe, Int.reduceToNat, Int.reduceLT, Int.reduceLE, Int.reduceNeg, reduceCtorEq, Int.reduceEq, Int.reduceNe, takeRows, Nat.zero_add, Nat.le_refl, List.length_map, hrl2, snocRows]
              refine ⟨⟨(i + 1, rows ++ [⟨x.f, x.n, r.1.d, r.1.p⟩], all + r.1.d.length, r.1.s), by show i + 1 ≤ l.length; omega, by show all + r.1.d.length ≤ 20000; omega, hst, by show (rows ++ [_]).length ≤ i + 1; simp only [List.length_append, List.length_cons, List.length_nil]; omega, hall⟩, by show l.length - (i + 1) < l.length - i; omega, Le.tl (Ls := []) [(0, 3), (1, 4), (2, 23)] (by simp -dsimp -implicitDefEqProofs (maxSteps := 1000000) only [go_sem, ↓reduceIte, Nat.reduceAdd, Nat.reduceSub, Nat.reduceMul, Nat.reduceLT, Nat.reduceLeDiff, Nat.reduceEqDiff, Nat.reduceBEq, Nat.reduceBNe, Int.reduceToNat, Int.reduceLT, Int.reduceLE, Int.reduceNeg, reduceCtorEq, Int.reduceEq, Int.reduceNe, e6]) ?_ (by simp) (by simp [sg]) trivial⟩
              simp -dsimp -implicitDefEqProofs (maxSteps := 1000000) only [go_sem, ↓reduceIte, Nat.reduceAdd, Nat.reduceSub, Nat.reduceMul, Nat.reduceLT, Nat.reduceLeDiff, Nat.reduceEqDiff, Nat.reduceBEq, Nat.reduceBNe, Int.reduceToNat, Int.reduceLT, Int.reduceLE, Int.reduceNeg, reduceCtorEq, Int.reduceEq, Int.reduceNe]
              exact ⟨renL_F (by simp -dsimp -implicitDefEqProofs (maxSteps := 1000000) only [go_sem, ↓reduceIte, Nat.reduceAdd, Nat.reduceSub, Nat.reduceMul, Nat.reduceLT, Nat.reduceLeDiff, Nat.reduceEqDiff, Nat.reduceBEq, Nat.reduceBNe, Int.reduceToNat, Int.reduceLT, Int.reduceLE, Int.reduceNeg, reduceCtorEq, Int.reduceEq, Int.reduceNe]), renL_F (by simp -dsimp -implicitDefEqProofs (maxSteps := 1000000) only [go_sem, ↓reduceIte, Nat.reduceAdd, Nat.reduceSub, Nat.reduceMul, Nat.reduceLT, Nat.reduceLeDiff, Nat.reduceEqDiff, Nat.reduceBEq, Nat.reduceBNe, Int.reduceToNat, Int.reduceLT, Int.reduceLE, Int.reduceNeg, reduceCtorEq, Int.reduceEq, Int.reduceNe]), renL_cl rfl (by simp -dsimp -implicitDefEqProofs (maxSteps := 1000000) only [go_sem, ↓reduceIte, Nat.reduceAdd, Nat.reduceSub, Nat.reduceMul, Nat.reduceLT, Nat.reduceLeDiff, Nat.reduceEqDiff, Nat.reduceBEq, Nat.reduceBNe, Int.reduceToNat, Int.reduceLT, Int.reduceLE, Int.reduceNeg, reduceCtorEq, Int.reduceEq, Int.reduceNe])⟩
          · rw [if_neg h1] at hall
            rw [hall]
            simp only [if_neg h1]
        · have hi' : i = l.length := by omega
          subst hi'
          simp only [List.drop_length, compF] at hall
          rw [hall, if_pos rfl, if_pos (by omega)]
          have e : takeA 0 rows.length (rows.map rowC) = rows.map rowC := by simp [takeA]
          rw [e]
end

end Go.Proofs.Ytdamfkckjcplcaa
