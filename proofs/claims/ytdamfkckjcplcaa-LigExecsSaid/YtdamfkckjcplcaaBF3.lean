/- What functions of the given program answer, part 3. Conditions: each theorem speaks for itself. -/
import Derived.Test.YtdamfkckjcplcaaBTy
import Derived.Test.YtdamfkckjcplcaaBF1
import Derived.Test.YtdamfkckjcplcaaBF2
set_option linter.unusedSimpArgs false
set_option linter.unusedVariables false
namespace Go.Proofs.Ytdamfkckjcplcaa
open Go Go.Eng Go.RowKit
attribute [local go_sem ↓] qE_move qE_assign qE_pick qE_load qE_fieldAddr qE_indexAddr qE_extract qE_binOp qE_not qE_convert qE_makeFunc qE_build qE_len qE_nilCheck qE_slice vc_end vc_skip vc_ret vc_seq vc_cond vc_block vc_exit vc_region vc_draw vc_loop vc_blk vc_lp vc_o_nil vc_o vc_o_guard onK_eq oK_move oK_assign oK_pick oK_load oK_fieldAddr oK_indexAddr oK_index oK_extract oK_binOp oK_unOp oK_convert oK_makeFunc oK_nilCheck oK_slice oK_build oK_len onN_eq oK_box oK_alloc oK_buildSlice onH_eq oK_store onA_eq oK_append oK_call oK_makeMap oK_lookup oK_mapUpdate bV_add bV_sub bV_mul bV_shr bV_eql bV_neq bV_lss bV_leq bV_gtr bV_geq vcQ_nil vcQ_cons vcQ_guard Q_move Q_assign Q_pick Q_load Q_fieldAddr Q_indexAddr Q_extract Q_binOp Q_unOp Q_nilCheck Q_slice Q_build Q_len Q_box Q_alloc Q_buildSlice onQA_eq Q_call qE_index tailB_nil tailB_true onS_eq tailB_store onP_eq tailB_append onQ_eq onQB_eq loadE indexE
attribute [local go_sem] force_eq optK_some optE_some optE_none bK_v tK_t fnK_fn fyK_fn nK_ptr nK_rp pK_ptr pK_rp brK_true brK_false brK_not evA_tmp evA_const evA_func putA_some putA_none pushA_eq slots_zero slots_nil tl_nil tl_cons find_cons find_nil setN_cons setN_nil dropN_nil dropN_cons loE_none loE_some hiE_none hiE_some slE_sl slE_ro bE_i bE_eql bE_neq intsA_nil intsA_cons gdK_b gdK_u popTo_blk popTo_c popTo_lp nilE_tmp nilE_int nilE_nil srcE_ro srcE_sl dstE_sl fin_eq res_nil res_tmp res_cell tup1 tup0 optA_some frz_v frz_ro frz_g frz_fn frz_ptr frz_sl optL_some nm_v nm_ro nm_g nm_fn nm_ptr nm_sl cells_v cells_g cells_ro cells_sl cells_fn one_int one_bool one_slice oneA_v oneA_ro oneA_sl ofV_int ofV_bool ofV_slice ofV_pointer len_ro len_sl asI_int fill_nil fill_cons chunks_nil chunks_cons take_all DrawK_eq idR_eq addB_some roB_cons sg_nil sg_cons ren_unk ren_v ren_nil ren_ptr ren_sl ren_ro ren_rp iK_ro iK_sl ixE_g takeA_00 takeA_s nil_eq maskE_eq i_InlQ i_tup2 i_oneMap i_RenF_nil i_RenF_cons i_cut_nil i_cut_cons wrap_wr brK_dec maskH_eq upd_get slots_succ Cl_v Cl_ro Cl_rp Cl_fn Cl_g Cl_t Bool.false_eq_true decide_true decide_false beq_self_eq_true true_and and_true ne_eq not_true not_false_eq_true List.elem_cons List.elem_nil List.contains_cons List.contains_nil List.getD_cons_zero List.getD_cons_succ Int.cast_ofNat_Int Bool.or_true Bool.true_or Bool.or_false Bool.false_or if_true if_false List.toList_toArray List.map_cons List.map_nil List.cons_append List.nil_append List.append_nil List.flatMap_cons List.flatMap_nil List.getElem?_cons_zero List.getElem?_cons_succ List.length_cons List.length_nil List.drop_succ_cons List.drop_zero List.take_succ_cons List.take_zero List.all_cons List.all_nil List.set_cons_zero List.set_cons_succ Option.bind_some Option.bind_none Option.map_some Option.map_none List.headD_cons List.tail_cons List.getElem?_toArray beq_true beq_false Bool.not_true Bool.not_false Bool.true_and Bool.and_true Bool.false_and Bool.and_false newCh Option.some.injEq exists_eq_left' sg_nil sg_cons List.mem_cons List.not_mem_nil forall_eq_or_imp forall_eq false_implies implies_true or_false false_or false_and and_false or_true true_or exists_false Option.isSome_some Option.isSome_none List.range_zero
attribute [local go_sem] T.sz3 T.by3 T.ag3 T.ik3 T.us3 T.ze3 T.sz4 T.ag4 T.sz22 T.ag22 T.sl22 T.sz28 T.ag28 T.ze28 T.bu28 T.sz32 T.ag32 T.sl32 T.ar32 T.pt32 T.ik32 T.us32 T.sz33 T.ag33 T.sl33 T.ar33 T.pt33 T.ik33 T.us33 T.sz40 T.ag40 T.sl40 T.ik40 T.us40 T.sz42 T.ag42 T.ze42 T.fl42_0 T.bu42 T.sz46 T.ag46 T.sl46 T.sz48 T.ag48 T.ze48 T.fl48_0 T.fl48_1 T.fl48_2 T.bu48 T.sz50 T.by50 T.ag50 T.ze50 T.fl50_0 T.fl50_1 T.fl50_2 T.fl50_3 T.bu50 T.sz54 T.ag54 T.sz56 T.ag56 T.ze56 T.fl56_0 T.fl56_1 T.fl56_2 T.fl56_3 T.bu56 T.sz58 T.by58 T.ag58 T.ze58 T.fl58_0 T.fl58_1 T.bu58 T.sz63 T.ag63 T.ze63 T.fl63_0 T.fl63_1 T.fl63_2 T.fl63_3 T.bu63 T.sz70 T.ag70 T.ze70 T.bu70 T.ze77 T.fl77_0 T.fl77_1 T.fl77_2 T.fl77_3 T.fl77_4 T.bu77 T.sz83 T.ag83 T.sl83 T.ar83 T.sz95 T.ag95 T.ze97 T.fl97_0 T.fl97_1 T.bu97 T.ag101 T.ik109 T.us109 T.ag112 -- NOREP
section
set_option maxRecDepth 20000
attribute [local go_sem] clIntsL clRusL clSets
abbrev Bs (B : List Bool) : List AV := B.map fun b => Bo b
theorem ze83 : zeT Try.prog 83 = some (List.replicate 256 (.bool false)) := by kernel_rfl
theorem bs0 (B0 : List Bool) (h : B0 = List.replicate 256 false) : ((List.replicate 256 (Value.bool false)).map AV.v) = Bs B0 := by rw [h, Bs, List.map_replicate, List.map_replicate]
theorem bsLen (B : List Bool) (h : B.length = 256) : (Bs B).length = 256 := by rw [Bs, List.length_map, h]
theorem bGet {B : List Bool} {i : Nat} (h : i < B.length) : B[i]? = some (B.getD i false) := by simp [List.getD, h]
attribute [local go_sem] ze83
/-- The codes of a line. -/
def markF (line : List Int) (B : List Bool) : List Bool := line.foldl (fun B c => B.set c.toNat true) B
/-- One pass over the rules. -/
def passF (l : List Ru) (B : List Bool) (m : Bool) : List Bool × Bool := l.foldl (fun s x => if x.o ≠ 0 ∧ s.1.getD x.f.toNat false = true ∧ s.1.getD x.n.toNat false = true ∧ s.1.getD x.v.toNat false = false then (s.1.set x.v.toNat true, true) else s) (B, m)
/-- Pass after pass. -/
def closF (l : List Ru) : Nat → List Bool → List Bool
  | 0, B => B
  | n + 1, B => if (passF l B false).2 then closF l n (passF l B false).1 else (passF l B false).1
def codesL (B : List Bool) (i : Nat) : List Int := ((List.range i).filter fun c => B.getD c false).map fun c => ((c : Nat) : Int)
def codesRaw (l : List Ru) (line : List Int) : AV :=
  if validR l && okL line then .t [Ints (codesL (closF l 257 (markF line (List.replicate 256 false))) 256), I 0] else .t [nilS, I 2]
theorem clCodesRaw (l : List Ru) (line : List Int) : Cl (codesRaw l line) := by
  unfold codesRaw
  split
  · refine .t fun s hs => ?_
    simp only [List.mem_cons, List.not_mem_nil, or_false] at hs
    rcases hs with rfl | rfl
    · exact clInts _
    · exact .v _
  · simp [Cl_t, Cl_v]
theorem setBs {B : List Bool} {j : Nat} (hB : B.length = 256) (hj : j < 256) : (if 1 = (Bs B).length then [AV.v (.bool true)] else List.take (0 + j * 1) (Bs B) ++ [AV.v (.bool true)] ++ List.drop (0 + j * 1 + 1) (Bs B)) = Bs (B.set j true) := by
  rw [bsLen B hB, if_neg (by decide), Nat.zero_add, Nat.mul_one]
  apply List.ext_getElem?
  intro k
  simp only [Bs, List.getElem?_map, List.getElem?_set, List.append_assoc, List.getElem?_append, List.length_take, List.length_map, hB, List.getElem?_take, List.getElem?_drop, Nat.min_eq_left (Nat.le_of_lt hj)]
  by_cases h1 : k < j
  · rw [if_pos h1, if_pos h1, if_neg (by omega)]
  · rw [if_neg h1]
    by_cases h2 : j = k
    · subst h2; simp [hj]
    · rw [if_neg h2]
      have : ¬ k - j < [AV.v (.bool true)].length := by simp; omega
      rw [if_neg this]
      congr 2
      simp; omega
/-- How many are not there. -/
def cnt (B : List Bool) : Nat := B.countP fun b => !b
theorem cnt_set : ∀ (B : List Bool) (j : Nat), j < B.length → B.getD j false = false → cnt (B.set j true) < cnt B
  | [], j, h, _ => by simp at h
  | b :: B, 0, _, h => by
    simp at h
    subst h
    simp [cnt]
  | b :: B, j + 1, h, hg => by
    have := cnt_set B j (by simpa using h) (by simpa using hg)
    simp only [cnt, List.set_cons_succ, List.countP_cons] at this ⊢
    omega
theorem passF_ok : ∀ (l : List Ru) (B : List Bool) (m : Bool), (∀ x ∈ l, x.o ≠ 0 → code x.v) → B.length = 256 → (passF l B m).1.length = 256 ∧ cnt (passF l B m).1 ≤ cnt B ∧ ((passF l B m).2 = true → m = true ∨ cnt (passF l B m).1 < cnt B)
  | [], B, m, _, hB => ⟨hB, Nat.le_refl _, .inl⟩
  | x :: l, B, m, hc, hB => by
    have e : passF (x :: l) B m = if x.o ≠ 0 ∧ B.getD x.f.toNat false = true ∧ B.getD x.n.toNat false = true ∧ B.getD x.v.toNat false = false then passF l (B.set x.v.toNat true) true else passF l B m := by
      simp only [passF, List.foldl_cons]
      split <;> rfl
    rw [e]
    split
    · rename_i h
      obtain ⟨h1, h2, h3, h4⟩ := h
      have hv := hc x (List.mem_cons_self ..) h1
      have hlt : x.v.toNat < B.length := by rw [hB]; unfold code at hv; omega
      have h5 := cnt_set B _ hlt h4
      obtain ⟨i1, i2, _⟩ := passF_ok l (B.set x.v.toNat true) true (fun y hy => hc y (List.mem_cons_of_mem _ hy)) (by simp [hB])
      exact ⟨i1, by omega, fun _ => .inr (by omega)⟩
    · exact passF_ok l B m (fun y hy => hc y (List.mem_cons_of_mem _ hy)) hB
theorem passF_cons (x : Ru) (l : List Ru) (B : List Bool) (m : Bool) : passF (x :: l) B m = if x.o ≠ 0 ∧ B.getD x.f.toNat false = true ∧ B.getD x.n.toNat false = true ∧ B.getD x.v.toNat false = false then passF l (B.set x.v.toNat true) true else passF l B m := by
  simp only [passF, List.foldl_cons]
  split <;> rfl
theorem codesL_succ (B : List Bool) (i : Nat) : codesL B (i + 1) = if B.getD i false then codesL B i ++ [(i : Int)] else codesL B i := by
  simp only [codesL, List.range_succ, List.filter_append, List.map_append]
  cases h : B.getD i false <;> simp only [List.filter_cons, List.filter_nil, h, Bool.false_eq_true, if_false, if_true, List.map_nil, List.append_nil, List.map_cons]
theorem markF_cons (c : Int) (line : List Int) (B : List Bool) : markF (c :: line) B = markF line (B.set c.toNat true) := rfl
theorem codesL_len (B : List Bool) (i : Nat) : (codesL B i).length ≤ i := by
  simp only [codesL, List.length_map]
  exact Nat.le_trans (List.length_filter_le _ _) (by simp)
theorem takeBs {B : List Bool} (h : B.length = 256) : List.take 256 (Bs B) = Bs B := List.take_of_length_le (by rw [bsLen B h]; exact Nat.le_refl _)
theorem takeCsA (q : List Int) : takeA 0 q.length (Cs q) = Cs q := by simp [takeA]
theorem renBsG {σ : Nat → Nat} {ns : List Nat} (B : List Bool) : Ren σ ns (.g (Bs B)) (.g (Bs B)) := .cl (.g (by intro s hs; obtain ⟨b, _, rfl⟩ := List.mem_map.1 hs; exact .v _))
theorem renBs {σ : Nat → Nat} {ns : List Nat} (B : List Bool) : RenL σ ns [Bs B] [Bs B] := renL_cl rfl (by intro c hc s hs; simp only [List.mem_singleton] at hc; subst hc; obtain ⟨b, _, rfl⟩ := List.mem_map.1 hs; exact .v _)
theorem codes22 (l : List Ru) (line : List Int) (hl : l.length < 2 ^ 62) (hl2 : line.length < 2 ^ 62) : PFun Try.prog 22 [Rus l, Ints line] (codesRaw l line) := by
  refine PFun.introM 400 mixed Try.func22 (by kernel_rfl) rfl (clCodesRaw l line) (Nat.le_of_ble_eq_true rfl) ?_; rw [Try.ntmps22, Try.results22]
  simp -dsimp -implicitDefEqProofs (maxSteps := 1000000) only [go_sem, ↓reduceIte, Nat.reduceAdd, Nat.reduceSub, Nat.reduceMul, Nat.reduceLT, Nat.reduceLeDiff, Nat.reduceEqDiff, Nat.reduceBEq, Nat.reduceBNe, Int.reduceToNat, Int.reduceLT, Int.reduceLE, Int.reduceNeg, reduceCtorEq, Int.reduceEq, Int.reduceNe]
  refine AtFn.pure0 (valid17 l hl) ?_
  simp -dsimp -implicitDefEqProofs (maxSteps := 1000000) only [go_sem, ↓reduceIte, Nat.reduceAdd, Nat.reduceSub, Nat.reduceMul, Nat.reduceLT, Nat.reduceLeDiff, Nat.reduceEqDiff, Nat.reduceBEq, Nat.reduceBNe, Int.reduceToNat, Int.reduceLT, Int.reduceLE, Int.reduceNeg, reduceCtorEq, Int.reduceEq, Int.reduceNe]
  cases hv : validR l
  · simp -dsimp -implicitDefEqProofs (maxSteps := 1000000) only [go_sem, ↓reduceIte, Nat.reduceAdd, Nat.reduceSub, Nat.reduceMul, Nat.reduceLT, Nat.reduceLeDiff, Nat.reduceEqDiff, Nat.reduceBEq, Nat.reduceBNe, Int.reduceToNat, Int.reduceLT, Int.reduceLE, Int.reduceNeg, reduceCtorEq, Int.reduceEq, Int.reduceNe]
    simp only [codesRaw, hv, Bool.false_and, Bool.false_eq_true, if_false]
  · have hl5 := (valid_iff hv).1
    simp -dsimp -implicitDefEqProofs (maxSteps := 1000000) only [go_sem, ↓reduceIte, Nat.reduceAdd, Nat.reduceSub, Nat.reduceMul, Nat.reduceLT, Nat.reduceLeDiff, Nat.reduceEqDiff, Nat.reduceBEq, Nat.reduceBNe, Int.reduceToNat, Int.reduceLT, Int.reduceLE, Int.reduceNeg, reduceCtorEq, Int.reduceEq, Int.reduceNe]
    refine AtFn.pure0 (isLine line hl2) ?_
    simp -dsimp -implicitDefEqProofs (maxSteps := 1000000) only [go_sem, ↓reduceIte, Nat.reduceAdd, Nat.reduceSub, Nat.reduceMul, Nat.reduceLT, Nat.reduceLeDiff, Nat.reduceEqDiff, Nat.reduceBEq, Nat.reduceBNe, Int.reduceToNat, Int.reduceLT, Int.reduceLE, Int.reduceNeg, reduceCtorEq, Int.reduceEq, Int.reduceNe]
    cases ho : okL line
    · simp -dsimp -implicitDefEqProofs (maxSteps := 1000000) only [go_sem, ↓reduceIte, Nat.reduceAdd, Nat.reduceSub, Nat.reduceMul, Nat.reduceLT, Nat.reduceLeDiff, Nat.reduceEqDiff, Nat.reduceBEq, Nat.reduceBNe, Int.reduceToNat, Int.reduceLT, Int.reduceLE, Int.reduceNeg, reduceCtorEq, Int.reduceEq, Int.reduceNe]
      simp only [codesRaw, ho, Bool.and_false, Bool.false_eq_true, if_false]
    · obtain ⟨B0, hB0⟩ : ∃ B0, B0 = List.replicate 256 false := ⟨_, rfl⟩
      have hB0l : B0.length = 256 := by rw [hB0]; exact List.length_replicate
      have hraw : codesRaw l line = .t [Ints (codesL (closF l 257 (markF line B0)) 256), I 0] := by simp only [codesRaw, hv, ho, Bool.and_self, if_true, hB0]
      rw [hraw]
      have hlc : ∀ i, i < line.length → 0 ≤ line.getD i 0 ∧ line.getD i 0 < 256 := by
        intro i hi
        simp only [okL, Bool.and_eq_true, decide_eq_true_eq] at ho
        have := List.all_eq_true.1 ho.2 _ (List.mem_of_getElem? (getI hi))
        simp only [inCode, Bool.and_eq_true, decide_eq_true_eq] at this
        omega
      have hl6 : line.length ≤ 500 := by
        simp only [okL, Bool.and_eq_true, decide_eq_true_eq] at ho
        exact ho.1
      simp -dsimp -implicitDefEqProofs (maxSteps := 1000000) only [go_sem, ↓reduceIte, Nat.reduceAdd, Nat.reduceSub, Nat.reduceMul, Nat.reduceLT, Nat.reduceLeDiff, Nat.reduceEqDiff, Nat.reduceBEq, Nat.reduceBNe, Int.reduceToNat, Int.reduceLT, Int.reduceLE, Int.reduceNeg, reduceCtorEq, Int.reduceEq, Int.reduceNe, bs0 B0 hB0, bsLen B0 hB0l, List.length_map]
      refine ⟨{p : Nat × List Bool // p.1 ≤ line.length ∧ p.2.length = 256 ∧ markF line B0 = markF (line.drop p.1) p.2}, fun p => ⟨77, tl [(0, Rus l), (6, .ptr 0 0 0), (23, Ints line), (24, I line.length), (25, I p.1.1)], [(0, ⟨256, [Bs p.1.2]⟩)], 1, ⟨[], some (.mp none)⟩⟩, fun p => line.length - p.1.1,
        ⟨⟨(0, B0), by simp, hB0l, by simp⟩, Le.tl (Ls := []) [] (by simp -dsimp -implicitDefEqProofs (maxSteps := 1000000) only [go_sem, ↓reduceIte, Nat.reduceAdd, Nat.reduceSub, Nat.reduceMul, Nat.reduceLT, Nat.reduceLeDiff, Nat.reduceEqDiff, Nat.reduceBEq, Nat.reduceBNe, Int.reduceToNat, Int.reduceLT, Int.reduceLE, Int.reduceNeg, reduceCtorEq, Int.reduceEq, Int.reduceNe]) ?_ (by simp) (by simp [sg]) trivial⟩, fun p => ?_⟩
      · simp -dsimp -implicitDefEqProofs (maxSteps := 1000000) only [go_sem, ↓reduceIte, Nat.reduceAdd, Nat.reduceSub, Nat.reduceMul, Nat.reduceLT, Nat.reduceLeDiff, Nat.reduceEqDiff, Nat.reduceBEq, Nat.reduceBNe, Int.reduceToNat, Int.reduceLT, Int.reduceLE, Int.reduceNeg, reduceCtorEq, Int.reduceEq, Int.reduceNe]
        exact renBs B0
      · obtain ⟨⟨i, B⟩, hi, hB, hall⟩ := p
        simp only at hi hB hall
        simp -dsimp -implicitDefEqProofs (maxSteps := 1000000) only [go_sem, ↓reduceIte, Nat.reduceAdd, Nat.reduceSub, Nat.reduceMul, Nat.reduceLT, Nat.reduceLeDiff, Nat.reduceEqDiff, Nat.reduceBEq, Nat.reduceBNe, Int.reduceToNat, Int.reduceLT, Int.reduceLE, Int.reduceNeg, reduceCtorEq, Int.reduceEq, Int.reduceNe, List.length_map]
        refine ⟨fun h => ?_, fun h => ?_⟩
        · have hlt : i < line.length := by omega
          obtain ⟨c1, c2⟩ := hlc i hlt
          have e1 : wr ((i : Int) + 1) = ((i + 1 : Nat) : Int) := by rw [wr_in] <;> omega
          have hdr : line.drop i = line.getD i 0 :: line.drop (i + 1) := by
            have e : line.getD i 0 = line[i] := by simp [List.getD, hlt]
            rw [e]
            exact List.drop_eq_getElem_cons hlt
          rw [hdr, markF_cons] at hall
          have hset := setBs (j := (line.getD i 0).toNat) hB (by omega)
          simp -dsimp -implicitDefEqProofs (maxSteps := 1000000) only [go_sem, ↓reduceIte, Nat.reduceAdd, Nat.reduceSub, Nat.reduceMul, Nat.reduceLT, Nat.reduceLeDiff, Nat.reduceEqDiff, Nat.reduceBEq, Nat.reduceBNe, Int.reduceToNat, Int.reduceLT, Int.reduceLE, Int.reduceNeg, reduceCtorEq, Int.reduceEq, Int.reduceNe, List.getElem?_map, Int.toNat_natCast, Int.natCast_nonneg, getI hlt, c1, c2, hset]
          refine ⟨by rw [bsLen B hB]; omega, ⟨(i + 1, _), by show i + 1 ≤ line.length; omega, by simp [hB], hall⟩, by show line.length - (i + 1) < line.length - i; omega, Le.tl (Ls := []) [] (by simp -dsimp -implicitDefEqProofs (maxSteps := 1000000) only [go_sem, ↓reduceIte, Nat.reduceAdd, Nat.reduceSub, Nat.reduceMul, Nat.reduceLT, Nat.reduceLeDiff, Nat.reduceEqDiff, Nat.reduceBEq, Nat.reduceBNe, Int.reduceToNat, Int.reduceLT, Int.reduceLE, Int.reduceNeg, reduceCtorEq, Int.reduceEq, Int.reduceNe, e1]) ?_ (by simp) (by simp [sg]) trivial⟩
          simp -dsimp -implicitDefEqProofs (maxSteps := 1000000) only [go_sem, ↓reduceIte, Nat.reduceAdd, Nat.reduceSub, Nat.reduceMul, Nat.reduceLT, Nat.reduceLeDiff, Nat.reduceEqDiff, Nat.reduceBEq, Nat.reduceBNe, Int.reduceToNat, Int.reduceLT, Int.reduceLE, Int.reduceNeg, reduceCtorEq, Int.reduceEq, Int.reduceNe]
          exact renBs _
        · have hi' : i = line.length := by omega
          subst hi'
          have hmk : markF line B0 = B := by rw [hall]; simp [markF]
          rw [hmk]
          clear hall hmk
          obtain ⟨R, hR⟩ : ∃ R, R = closF l 257 B := ⟨_, rfl⟩
          rw [← hR]
          have hcB : cnt B < 257 := by have : cnt B ≤ B.length := List.countP_le_length; omega
          have hvc : ∀ x ∈ l, x.o ≠ 0 → code x.v := fun x hx => by
            obtain ⟨j, hj, rfl⟩ := List.getElem_of_mem hx
            have := (okCode hv hj).2.2
            simpa [List.getD, hj] using this
          refine ⟨{p : Nat × List Bool × Bool // p.2.1.length = 256 ∧ (p.2.2 = true → cnt p.2.1 < p.1) ∧ R = if p.2.2 then closF l p.1 p.2.1 else p.2.1}, fun p => ⟨77, tl [(0, Rus l), (6, .ptr 0 0 0), (9, Bo p.1.2.2)], [(0, ⟨256, [Bs p.1.2.1]⟩)], 1, ⟨[], some (.mp none)⟩⟩, fun p => p.1.1,
            ⟨⟨(257, B, true), hB, fun _ => hcB, hR⟩, Le.tl (Ls := []) [] (by simp -dsimp -implicitDefEqProofs (maxSteps := 1000000) only [go_sem, ↓reduceIte, Nat.reduceAdd, Nat.reduceSub, Nat.reduceMul, Nat.reduceLT, Nat.reduceLeDiff, Nat.reduceEqDiff, Nat.reduceBEq, Nat.reduceBNe, Int.reduceToNat, Int.reduceLT, Int.reduceLE, Int.reduceNeg, reduceCtorEq, Int.reduceEq, Int.reduceNe]) ?_ (by simp) (by simp [sg]) trivial⟩, fun p => ?_⟩
          · simp -dsimp -implicitDefEqProofs (maxSteps := 1000000) only [go_sem, ↓reduceIte, Nat.reduceAdd, Nat.reduceSub, Nat.reduceMul, Nat.reduceLT, Nat.reduceLeDiff, Nat.reduceEqDiff, Nat.reduceBEq, Nat.reduceBNe, Int.reduceToNat, Int.reduceLT, Int.reduceLE, Int.reduceNeg, reduceCtorEq, Int.reduceEq, Int.reduceNe]
            exact renBs _
          · clear hcB hR hB
            obtain ⟨⟨n, B, m⟩, hB, hcB, hR⟩ := p
            simp only at hB hcB hR
            simp -dsimp -implicitDefEqProofs (maxSteps := 1000000) only [go_sem, ↓reduceIte, Nat.reduceAdd, Nat.reduceSub, Nat.reduceMul, Nat.reduceLT, Nat.reduceLeDiff, Nat.reduceEqDiff, Nat.reduceBEq, Nat.reduceBNe, Int.reduceToNat, Int.reduceLT, Int.reduceLE, Int.reduceNeg, reduceCtorEq, Int.reduceEq, Int.reduceNe, List.length_map]
            refine ⟨fun hm => ?_, fun hm => ?_⟩
            · subst hm
              simp -dsimp -implicitDefEqProofs (maxSteps := 1000000) only [go_sem, ↓reduceIte, Nat.reduceAdd, Nat.reduceSub, Nat.reduceMul, Nat.reduceLT, Nat.reduceLeDiff, Nat.reduceEqDiff, Nat.reduceBEq, Nat.reduceBNe, Int.reduceToNat, Int.reduceLT, Int.reduceLE, Int.reduceNeg, reduceCtorEq, Int.reduceEq, Int.reduceNe, List.length_map]
              have hcB := hcB rfl
              obtain ⟨n, rfl⟩ : ∃ n', n = n' + 1 := ⟨n - 1, by omega⟩
              simp only [if_true, closF] at hR
              have hp := passF_ok l B false hvc hB
              refine ⟨{p : Nat × List Bool × Bool // p.1 ≤ l.length ∧ p.2.1.length = 256 ∧ passF l B false = passF (l.drop p.1) p.2.1 p.2.2}, fun p => ⟨77, tl [(0, Rus l), (6, .ptr 0 0 0), (9, Bo p.1.2.2), (33, Rus l), (34, I l.length), (35, I p.1.1)], [(0, ⟨256, [Bs p.1.2.1]⟩)], 1, ⟨[], some (.mp none)⟩⟩, fun p => l.length - p.1.1,
                ⟨⟨(0, B, false), by simp, hB, by simp⟩, Le.tl (Ls := []) [] (by simp -dsimp -implicitDefEqProofs (maxSteps := 1000000) only [go_sem, ↓reduceIte, Nat.reduceAdd, Nat.reduceSub, Nat.reduceMul, Nat.reduceLT, Nat.reduceLeDiff, Nat.reduceEqDiff, Nat.reduceBEq, Nat.reduceBNe, Int.reduceToNat, Int.reduceLT, Int.reduceLE, Int.reduceNeg, reduceCtorEq, Int.reduceEq, Int.reduceNe]) ?_ (by simp) (by simp [sg]) trivial⟩, fun p => ?_⟩
              · simp -dsimp -implicitDefEqProofs (maxSteps := 1000000) only [go_sem, ↓reduceIte, Nat.reduceAdd, Nat.reduceSub, Nat.reduceMul, Nat.reduceLT, Nat.reduceLeDiff, Nat.reduceEqDiff, Nat.reduceBEq, Nat.reduceBNe, Int.reduceToNat, Int.reduceLT, Int.reduceLE, Int.reduceNeg, reduceCtorEq, Int.reduceEq, Int.reduceNe]
                exact renBs _
              · obtain ⟨⟨i, Bc, mc⟩, hi, hBc, hps⟩ := p
                simp only at hi hBc hps
                simp -dsimp -implicitDefEqProofs (maxSteps := 1000000) only [go_sem, ↓reduceIte, Nat.reduceAdd, Nat.reduceSub, Nat.reduceMul, Nat.reduceLT, Nat.reduceLeDiff, Nat.reduceEqDiff, Nat.reduceBEq, Nat.reduceBNe, Int.reduceToNat, Int.reduceLT, Int.reduceLE, Int.reduceNeg, reduceCtorEq, Int.reduceEq, Int.reduceNe, List.length_map]
                refine ⟨fun h => ?_, fun h => ?_⟩
                · have hlt : i < l.length := by omega
                  obtain ⟨c1, c2, c3⟩ := okCode hv hlt
                  have hdr : l.drop i = l.getD i zR :: l.drop (i + 1) := by
                    have e : l.getD i zR = l[i] := by simp [List.getD, hlt]
                    rw [e]
                    exact List.drop_eq_getElem_cons hlt
                  rw [hdr, passF_cons] at hps
                  simp -dsimp -implicitDefEqProofs (maxSteps := 1000000) only [go_sem, ↓reduceIte, Nat.reduceAdd, Nat.reduceSub, Nat.reduceMul, Nat.reduceLT, Nat.reduceLeDiff, Nat.reduceEqDiff, Nat.reduceBEq, Nat.reduceBNe, Int.reduceToNat, Int.reduceLT, Int.reduceLE, Int.reduceNeg, reduceCtorEq, Int.reduceEq, Int.reduceNe, List.getElem?_map, Int.toNat_natCast, Int.natCast_nonneg, getR hlt]
                  obtain ⟨x, hx⟩ : ∃ x, x = l.getD i zR := ⟨_, rfl⟩
                  rw [← hx] at hps c1 c2 c3 ⊢
                  unfold code at c1 c2 c3
                  have gF := bGet (B := Bc) (i := x.f.toNat) (by omega)
                  have gN := bGet (B := Bc) (i := x.n.toNat) (by omega)
                  have d1 : x.f < 256 := by omega
                  have d2 : x.n < 256 := by omega
                  have e1 : wr ((i : Int) + 1) = ((i + 1 : Nat) : Int) := by rw [wr_in] <;> omega
                  by_cases h0 : x.o = 0
                  · simp -dsimp -implicitDefEqProofs (maxSteps := 1000000) only [go_sem, ↓reduceIte, Nat.reduceAdd, Nat.reduceSub, Nat.reduceMul, Nat.reduceLT, Nat.reduceLeDiff, Nat.reduceEqDiff, Nat.reduceBEq, Nat.reduceBNe, Int.reduceToNat, Int.reduceLT, Int.reduceLE, Int.reduceNeg, reduceCtorEq, Int.reduceEq, Int.reduceNe, h0, true_implies]
                    rw [if_neg (fun q => q.1 h0)] at hps
                    refine ⟨⟨(i + 1, Bc, mc), by show i + 1 ≤ l.length; omega, hBc, hps⟩, by show l.length - (i + 1) < l.length - i; omega, Le.tl (Ls := []) [] (by simp -dsimp -implicitDefEqProofs (maxSteps := 1000000) only [go_sem, ↓reduceIte, Nat.reduceAdd, Nat.reduceSub, Nat.reduceMul, Nat.reduceLT, Nat.reduceLeDiff, Nat.reduceEqDiff, Nat.reduceBEq, Nat.reduceBNe, Int.reduceToNat, Int.reduceLT, Int.reduceLE, Int.reduceNeg, reduceCtorEq, Int.reduceEq, Int.reduceNe, e1]) ?_ (by simp) (by simp [sg]) trivial⟩
                    simp -dsimp -implicitDefEqProofs (maxSteps := 1000000) only [go_sem, ↓reduceIte, Nat.reduceAdd, Nat.reduceSub, Nat.reduceMul, Nat.reduceLT, Nat.reduceLeDiff, Nat.reduceEqDiff, Nat.reduceBEq, Nat.reduceBNe, Int.reduceToNat, Int.reduceLT, Int.reduceLE, Int.reduceNeg, reduceCtorEq, Int.reduceEq, Int.reduceNe]
                    exact renBs _
                  · have c3 := c3 h0
                    have d3 : x.v < 256 := by omega
                    have gV := bGet (B := Bc) (i := x.v.toNat) (by omega)
                    cases hF : Bc.getD x.f.toNat false
                    · rw [hF] at gF
                      simp -dsimp -implicitDefEqProofs (maxSteps := 1000000) only [go_sem, ↓reduceIte, Nat.reduceAdd, Nat.reduceSub, Nat.reduceMul, Nat.reduceLT, Nat.reduceLeDiff, Nat.reduceEqDiff, Nat.reduceBEq, Nat.reduceBNe, Int.reduceToNat, Int.reduceLT, Int.reduceLE, Int.reduceNeg, reduceCtorEq, Int.reduceEq, Int.reduceNe, h0, true_implies, List.getElem?_map, c1.1, d1, Nat.zero_add, Nat.mul_one, gF]
                      rw [if_neg (fun q => Bool.false_ne_true (hF.symm.trans q.2.1))] at hps
                      refine ⟨⟨(i + 1, Bc, mc), by show i + 1 ≤ l.length; omega, hBc, hps⟩, by show l.length - (i + 1) < l.length - i; omega, Le.tl (Ls := []) [] (by simp -dsimp -implicitDefEqProofs (maxSteps := 1000000) only [go_sem, ↓reduceIte, Nat.reduceAdd, Nat.reduceSub, Nat.reduceMul, Nat.reduceLT, Nat.reduceLeDiff, Nat.reduceEqDiff, Nat.reduceBEq, Nat.reduceBNe, Int.reduceToNat, Int.reduceLT, Int.reduceLE, Int.reduceNeg, reduceCtorEq, Int.reduceEq, Int.reduceNe, e1]) ?_ (by simp) (by simp [sg]) trivial⟩
                      simp -dsimp -implicitDefEqProofs (maxSteps := 1000000) only [go_sem, ↓reduceIte, Nat.reduceAdd, Nat.reduceSub, Nat.reduceMul, Nat.reduceLT, Nat.reduceLeDiff, Nat.reduceEqDiff, Nat.reduceBEq, Nat.reduceBNe, Int.reduceToNat, Int.reduceLT, Int.reduceLE, Int.reduceNeg, reduceCtorEq, Int.reduceEq, Int.reduceNe]
                      exact renBs _
                    · rw [hF] at gF
                      cases hN : Bc.getD x.n.toNat false
                      · rw [hN] at gN
                        simp -dsimp -implicitDefEqProofs (maxSteps := 1000000) only [go_sem, ↓reduceIte, Nat.reduceAdd, Nat.reduceSub, Nat.reduceMul, Nat.reduceLT, Nat.reduceLeDiff, Nat.reduceEqDiff, Nat.reduceBEq, Nat.reduceBNe, Int.reduceToNat, Int.reduceLT, Int.reduceLE, Int.reduceNeg, reduceCtorEq, Int.reduceEq, Int.reduceNe, h0, true_implies, List.getElem?_map, c1.1, d1, c2.1, d2, Nat.zero_add, Nat.mul_one, gF, gN]
                        rw [if_neg (fun q => Bool.false_ne_true (hN.symm.trans q.2.2.1))] at hps
                        refine ⟨⟨(i + 1, Bc, mc), by show i + 1 ≤ l.length; omega, hBc, hps⟩, by show l.length - (i + 1) < l.length - i; omega, Le.tl (Ls := []) [] (by simp -dsimp -implicitDefEqProofs (maxSteps := 1000000) only [go_sem, ↓reduceIte, Nat.reduceAdd, Nat.reduceSub, Nat.reduceMul, Nat.reduceLT, Nat.reduceLeDiff, Nat.reduceEqDiff, Nat.reduceBEq, Nat.reduceBNe, Int.reduceToNat, Int.reduceLT, Int.reduceLE, Int.reduceNeg, reduceCtorEq, Int.reduceEq, Int.reduceNe, e1]) ?_ (by simp) (by simp [sg]) trivial⟩
                        simp -dsimp -implicitDefEqProofs (maxSteps := 1000000) only [go_sem, ↓reduceIte, Nat.reduceAdd, Nat.reduceSub, Nat.reduceMul, Nat.reduceLT, Nat.reduceLeDiff, Nat.reduceEqDiff, Nat.reduceBEq, Nat.reduceBNe, Int.reduceToNat, Int.reduceLT, Int.reduceLE, Int.reduceNeg, reduceCtorEq, Int.reduceEq, Int.reduceNe]
                        exact renBs _
                      · rw [hN] at gN
                        cases hV : Bc.getD x.v.toNat false
                        · rw [hV] at gV
                          rw [if_pos ⟨h0, hF, hN, hV⟩] at hps
                          have hset := setBs (j := x.v.toNat) hBc (by omega)
                          simp -dsimp -implicitDefEqProofs (maxSteps := 1000000) only [go_sem, ↓reduceIte, Nat.reduceAdd, Nat.reduceSub, Nat.reduceMul, Nat.reduceLT, Nat.reduceLeDiff, Nat.reduceEqDiff, Nat.reduceBEq, Nat.reduceBNe, Int.reduceToNat, Int.reduceLT, Int.reduceLE, Int.reduceNeg, reduceCtorEq, Int.reduceEq, Int.reduceNe, h0, true_implies, List.getElem?_map, c1.1, d1, c2.1, d2, c3.1, d3, Nat.zero_add, Nat.mul_one, gF, gN, gV]
                          simp only [Nat.zero_add, Nat.mul_one] at hset
                          refine ⟨by rw [bsLen Bc hBc]; omega, ⟨(i + 1, _, true), by show i + 1 ≤ l.length; omega, by simp [hBc], hps⟩, by show l.length - (i + 1) < l.length - i; omega, Le.tl (Ls := []) [] (by simp -dsimp -implicitDefEqProofs (maxSteps := 1000000) only [go_sem, ↓reduceIte, Nat.reduceAdd, Nat.reduceSub, Nat.reduceMul, Nat.reduceLT, Nat.reduceLeDiff, Nat.reduceEqDiff, Nat.reduceBEq, Nat.reduceBNe, Int.reduceToNat, Int.reduceLT, Int.reduceLE, Int.reduceNeg, reduceCtorEq, Int.reduceEq, Int.reduceNe, e1]) ?_ (by simp) (by simp [sg]) trivial⟩
                          simp -dsimp -implicitDefEqProofs (maxSteps := 1000000) only [go_sem, ↓reduceIte, Nat.reduceAdd, Nat.reduceSub, Nat.reduceMul, Nat.reduceLT, Nat.reduceLeDiff, Nat.reduceEqDiff, Nat.reduceBEq, Nat.reduceBNe, Int.reduceToNat, Int.reduceLT, Int.reduceLE, Int.reduceNeg, reduceCtorEq, Int.reduceEq, Int.reduceNe]
                          rw [hset]
                          exact renBs _
                        · rw [hV] at gV
                          simp -dsimp -implicitDefEqProofs (maxSteps := 1000000) only [go_sem, ↓reduceIte, Nat.reduceAdd, Nat.reduceSub, Nat.reduceMul, Nat.reduceLT, Nat.reduceLeDiff, Nat.reduceEqDiff, Nat.reduceBEq, Nat.reduceBNe, Int.reduceToNat, Int.reduceLT, Int.reduceLE, Int.reduceNeg, reduceCtorEq, Int.reduceEq, Int.reduceNe, h0, true_implies, List.getElem?_map, c1.1, d1, c2.1, d2, c3.1, d3, Nat.zero_add, Nat.mul_one, gF, gN, gV]
                          rw [if_neg (fun q => Bool.false_ne_true (q.2.2.2.symm.trans hV))] at hps
                          refine ⟨⟨(i + 1, Bc, mc), by show i + 1 ≤ l.length; omega, hBc, hps⟩, by show l.length - (i + 1) < l.length - i; omega, Le.tl (Ls := []) [] (by simp -dsimp -implicitDefEqProofs (maxSteps := 1000000) only [go_sem, ↓reduceIte, Nat.reduceAdd, Nat.reduceSub, Nat.reduceMul, Nat.reduceLT, Nat.reduceLeDiff, Nat.reduceEqDiff, Nat.reduceBEq, Nat.reduceBNe, Int.reduceToNat, Int.reduceLT, Int.reduceLE, Int.reduceNeg, reduceCtorEq, Int.reduceEq, Int.reduceNe, e1]) ?_ (by simp) (by simp [sg]) trivial⟩
                          simp -dsimp -implicitDefEqProofs (maxSteps := 1000000) only [go_sem, ↓reduceIte, Nat.reduceAdd, Nat.reduceSub, Nat.reduceMul, Nat.reduceLT, Nat.reduceLeDiff, Nat.reduceEqDiff, Nat.reduceBEq, Nat.reduceBNe, Int.reduceToNat, Int.reduceLT, Int.reduceLE, Int.reduceNeg, reduceCtorEq, Int.reduceEq, Int.reduceNe]
                          exact renBs _
                · have hi' : i = l.length := by omega
                  subst hi'
                  simp only [List.drop_length] at hps
                  have hps2 : passF l B false = (Bc, mc) := hps
                  rw [hps2] at hR hp
                  refine ⟨⟨(n, Bc, mc), hBc, fun hm => ?_, hR⟩, by show n < n + 1; omega, Le.tl (Ls := []) [] (by simp -dsimp -implicitDefEqProofs (maxSteps := 1000000) only [go_sem, ↓reduceIte, Nat.reduceAdd, Nat.reduceSub, Nat.reduceMul, Nat.reduceLT, Nat.reduceLeDiff, Nat.reduceEqDiff, Nat.reduceBEq, Nat.reduceBNe, Int.reduceToNat, Int.reduceLT, Int.reduceLE, Int.reduceNeg, reduceCtorEq, Int.reduceEq, Int.reduceNe]) ?_ (by simp) (by simp [sg]) trivial⟩
                  · have := (hp.2.2 hm).resolve_left (by simp)
                    show cnt Bc < n
                    simp only at this
                    omega
                  · simp -dsimp -implicitDefEqProofs (maxSteps := 1000000) only [go_sem, ↓reduceIte, Nat.reduceAdd, Nat.reduceSub, Nat.reduceMul, Nat.reduceLT, Nat.reduceLeDiff, Nat.reduceEqDiff, Nat.reduceBEq, Nat.reduceBNe, Int.reduceToNat, Int.reduceLT, Int.reduceLE, Int.reduceNeg, reduceCtorEq, Int.reduceEq, Int.reduceNe]
                    exact renBs _
            · subst hm
              simp only [Bool.false_eq_true, if_false] at hR
              subst hR
              simp -dsimp -implicitDefEqProofs (maxSteps := 1000000) only [go_sem, ↓reduceIte, Nat.reduceAdd, Nat.reduceSub, Nat.reduceMul, Nat.reduceLT, Nat.reduceLeDiff, Nat.reduceEqDiff, Nat.reduceBEq, Nat.reduceBNe, Int.reduceToNat, Int.reduceLT, Int.reduceLE, Int.reduceNeg, reduceCtorEq, Int.reduceEq, Int.reduceNe]
              refine ⟨by rw [bsLen R hB]; exact Nat.le_refl _, ?_⟩
              refine ⟨{i : Nat // i ≤ 256}, fun i => ⟨77, tl [(12, .sl 0 0 (codesL R i.1).length), (65, .g (Bs R)), (66, I i.1)], [(0, ⟨1, Cs (codesL R i.1)⟩)], 1, ⟨[], some (.mp none)⟩⟩, fun i => 256 - i.1,
                ⟨⟨0, by omega⟩, Le.tl0 (Ls := []) [(0, 99)] ?_ ?_ (by simp) (by simp [sg]) trivial⟩, fun i => ?_⟩
              · simp -dsimp -implicitDefEqProofs (maxSteps := 1000000) only [go_sem, ↓reduceIte, Nat.reduceAdd, Nat.reduceSub, Nat.reduceMul, Nat.reduceLT, Nat.reduceLeDiff, Nat.reduceEqDiff, Nat.reduceBEq, Nat.reduceBNe, Int.reduceToNat, Int.reduceLT, Int.reduceLE, Int.reduceNeg, reduceCtorEq, Int.reduceEq, Int.reduceNe]
                rw [takeBs hB]
                exact ⟨.nil, renBsG _⟩
              · simp -dsimp -implicitDefEqProofs (maxSteps := 1000000) only [go_sem, ↓reduceIte, Nat.reduceAdd, Nat.reduceSub, Nat.reduceMul, Nat.reduceLT, Nat.reduceLeDiff, Nat.reduceEqDiff, Nat.reduceBEq, Nat.reduceBNe, Int.reduceToNat, Int.reduceLT, Int.reduceLE, Int.reduceNeg, reduceCtorEq, Int.reduceEq, Int.reduceNe]
                rfl
              · obtain ⟨i, hi⟩ := i
                simp -dsimp -implicitDefEqProofs (maxSteps := 1000000) only [go_sem, ↓reduceIte, Nat.reduceAdd, Nat.reduceSub, Nat.reduceMul, Nat.reduceLT, Nat.reduceLeDiff, Nat.reduceEqDiff, Nat.reduceBEq, Nat.reduceBNe, Int.reduceToNat, Int.reduceLT, Int.reduceLE, Int.reduceNeg, reduceCtorEq, Int.reduceEq, Int.reduceNe]
                refine ⟨fun h => ?_, fun h => ?_⟩
                · have hlt : i < 256 := by omega
                  have gB := bGet (B := R) (i := i) (by omega)
                  have e1 : wr ((i : Int) + 1) = ((i + 1 : Nat) : Int) := by rw [wr_in] <;> omega
                  have hlen := codesL_len R i
                  have hcl : (codesL R i).length ≤ 1099511627775 := by omega
                  have hsc := codesL_succ R i
                  cases hb : R.getD i false
                  · rw [hb] at gB hsc
                    simp only [Bool.false_eq_true, if_false] at hsc
                    simp -dsimp -implicitDefEqProofs (maxSteps := 1000000) only [go_sem, ↓reduceIte, Nat.reduceAdd, Nat.reduceSub, Nat.reduceMul, Nat.reduceLT, Nat.reduceLeDiff, Nat.reduceEqDiff, Nat.reduceBEq, Nat.reduceBNe, Int.reduceToNat, Int.reduceLT, Int.reduceLE, Int.reduceNeg, reduceCtorEq, Int.reduceEq, Int.reduceNe, List.getElem?_map, Int.toNat_natCast, Int.natCast_nonneg, gB, Nat.mul_one]
                    refine ⟨h, ⟨i + 1, by omega⟩, by show 256 - (i + 1) < 256 - i; omega, Le.tl (Ls := []) [] ?_ ?_ (by simp) (by simp [sg]) trivial⟩
                    · simp -dsimp -implicitDefEqProofs (maxSteps := 1000000) only [go_sem, ↓reduceIte, Nat.reduceAdd, Nat.reduceSub, Nat.reduceMul, Nat.reduceLT, Nat.reduceLeDiff, Nat.reduceEqDiff, Nat.reduceBEq, Nat.reduceBNe, Int.reduceToNat, Int.reduceLT, Int.reduceLE, Int.reduceNeg, reduceCtorEq, Int.reduceEq, Int.reduceNe, e1, hsc]
                      exact renBsG _
                    · simp -dsimp -implicitDefEqProofs (maxSteps := 1000000) only [go_sem, ↓reduceIte, Nat.reduceAdd, Nat.reduceSub, Nat.reduceMul, Nat.reduceLT, Nat.reduceLeDiff, Nat.reduceEqDiff, Nat.reduceBEq, Nat.reduceBNe, Int.reduceToNat, Int.reduceLT, Int.reduceLE, Int.reduceNeg, reduceCtorEq, Int.reduceEq, Int.reduceNe, hsc]
                      exact renL_cs rfl
                  · rw [hb] at gB hsc
                    simp only [if_true] at hsc
                    simp -dsimp -implicitDefEqProofs (maxSteps := 1000000) only [go_sem, ↓reduceIte, Nat.reduceAdd, Nat.reduceSub, Nat.reduceMul, Nat.reduceLT, Nat.reduceLeDiff, Nat.reduceEqDiff, Nat.reduceBEq, Nat.reduceBNe, Int.reduceToNat, Int.reduceLT, Int.reduceLE, Int.reduceNeg, reduceCtorEq, Int.reduceEq, Int.reduceNe, List.getElem?_map, Int.toNat_natCast, Int.natCast_nonneg, gB, Nat.mul_one, List.length_map, takeCsA, Nat.zero_add, Nat.le_refl, hcl, snocCs]
                    refine ⟨h, ⟨i + 1, by omega⟩, by show 256 - (i + 1) < 256 - i; omega, Le.tl (Ls := []) [(0, 2)] ?_ ?_ (by simp) (by simp [sg]) trivial⟩
                    · simp -dsimp -implicitDefEqProofs (maxSteps := 1000000) only [go_sem, ↓reduceIte, Nat.reduceAdd, Nat.reduceSub, Nat.reduceMul, Nat.reduceLT, Nat.reduceLeDiff, Nat.reduceEqDiff, Nat.reduceBEq, Nat.reduceBNe, Int.reduceToNat, Int.reduceLT, Int.reduceLE, Int.reduceNeg, reduceCtorEq, Int.reduceEq, Int.reduceNe, e1, hsc]
                      exact renBsG _
                    · simp -dsimp -implicitDefEqProofs (maxSteps := 1000000) only [go_sem, ↓reduceIte, Nat.reduceAdd, Nat.reduceSub, Nat.reduceMul, Nat.reduceLT, Nat.reduceLeDiff, Nat.reduceEqDiff, Nat.reduceBEq, Nat.reduceBNe, Int.reduceToNat, Int.reduceLT, Int.reduceLE, Int.reduceNeg, reduceCtorEq, Int.reduceEq, Int.reduceNe, hsc]
                      exact renL_cs rfl
                · have hi' : i = 256 := by omega
                  subst hi'
                  rw [takeCsA, if_pos (by simp)]
end

end Go.Proofs.Ytdamfkckjcplcaa
