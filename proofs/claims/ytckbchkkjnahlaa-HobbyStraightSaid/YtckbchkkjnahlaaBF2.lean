/- What functions of the given program answer, part 2. Conditions: each theorem speaks for itself. -/
import Derived.Test.YtckbchkkjnahlaaBTy
import Derived.Test.YtckbchkkjnahlaaBF1
set_option linter.unusedSimpArgs false
set_option linter.unusedVariables false
namespace Go.Proofs.Ytckbchkkjnahlaa
open Go Go.Eng Go.RowKit
attribute [local go_sem ↓] qE_move qE_assign qE_pick qE_load qE_fieldAddr qE_indexAddr qE_extract qE_binOp qE_neg qE_not qE_convert qE_build qE_len qE_max2 qE_min2 qE_nilCheck qE_slice vc_end vc_skip vc_ret vc_seq vc_cond vc_block vc_exit vc_region vc_draw vc_loop vc_blk vc_lp vc_o_nil vc_o vc_o_guard onK_eq oK_move oK_assign oK_pick oK_load oK_fieldAddr oK_indexAddr oK_extract oK_binOp oK_unOp oK_convert oK_nilCheck oK_slice oK_build oK_len oK_max oK_min onN_eq oK_box oK_alloc oK_buildSlice oK_makeSlice onH_eq oK_store onA_eq oK_append oK_call oK_copy oK_cap bV_add bV_sub bV_mul bV_quo bV_rem bV_shl bV_shr bV_eql bV_neq bV_lss bV_leq bV_gtr bV_geq vcQ_nil vcQ_cons vcQ_guard Q_move Q_assign Q_pick Q_load Q_fieldAddr Q_indexAddr Q_binOp Q_unOp Q_nilCheck Q_slice Q_build Q_len Q_alloc Q_buildSlice Q_call tailB_nil tailB_true onS_eq tailB_store onQ_eq onQB_eq loadE
attribute [local go_sem] force_eq optK_some optE_some optE_none bK_v tK_t fnK_fn fyK_fn nK_ptr pK_ptr pK_rp brK_true brK_false brK_not evA_tmp evA_const evA_func putA_some putA_none pushA_eq slots_zero slots_nil tl_nil tl_cons find_cons find_nil setN_cons setN_nil dropN_nil dropN_cons loE_none loE_some hiE_none hiE_some slE_sl slE_ro bE_i bE_bne bE_eql bE_neq intsA_nil intsA_cons gdK_b gdK_u popTo_blk popTo_c popTo_lp nilE_tmp nilE_int nilE_nil srcE_ro srcE_sl dstE_sl fin_eq res_nil res_tmp res_cell tup1 tup0 optA_some frz_v frz_ro frz_g frz_sl nm_v nm_ro nm_sl cells_v cells_g cells_ro cells_ptr cells_sl one_int one_bool one_slice oneA_v oneA_ro oneA_sl ofV_int ofV_bool ofV_slice len_ro len_sl len_nil asI_int fill_nil fill_cons chunks_nil chunks_cons DrawK_eq idR_eq addB_some roB_cons sg_nil sg_cons ren_v ren_nil ren_ptr ren_sl ren_ro iK_ro iK_sl takeA_00 takeA_s nil_eq maskE_eq i_InlQ i_tup2 i_RenF_nil i_RenF_cons wrap_wr brK_dec maskH_eq upd_get slots_succ Cl_v Cl_ro Cl_rp Cl_fn Cl_g Cl_t Bool.false_eq_true decide_true decide_false beq_self_eq_true true_and and_true ne_eq not_true not_false_eq_true List.elem_cons List.elem_nil List.contains_cons List.contains_nil List.getD_cons_zero List.getD_cons_succ Int.cast_ofNat_Int Bool.or_true Bool.true_or Bool.or_false Bool.false_or if_true if_false List.toList_toArray List.map_cons List.map_nil List.cons_append List.nil_append List.append_nil List.flatMap_cons List.flatMap_nil List.getElem?_cons_zero List.getElem?_cons_succ List.length_cons List.length_nil List.drop_succ_cons List.drop_zero List.take_succ_cons List.take_zero List.all_cons List.all_nil List.set_cons_zero List.set_cons_succ Option.bind_some Option.bind_none Option.map_some Option.map_none List.headD_cons List.tail_cons List.getElem?_toArray beq_true beq_false Bool.not_true Bool.not_false Bool.true_and Bool.and_true Bool.false_and Bool.and_false newCh List.replicate_succ List.replicate_zero Option.some.injEq exists_eq_left' sg_nil sg_cons List.mem_cons List.not_mem_nil forall_eq_or_imp forall_eq false_implies implies_true or_false false_or false_and and_false or_true true_or exists_false Option.isSome_some Option.isSome_none List.range_zero
attribute [local go_sem] T.sz3 T.ag3 T.pt3 T.ik3 T.us3 T.ze3 T.sz4 T.ag4 T.bo4 T.sz22 T.ag22 T.sl22 T.ik22 T.us22 T.sl23 T.sl25 T.ik25 T.us25 T.sz27 T.by27 T.ag27 T.ze27 T.fl27_0 T.fl27_1 T.bu27 T.sz29 T.ag29 T.us29 T.sz30 T.ag30 T.sz32 T.ag32 T.ze32 T.fl32_0 T.fl32_1 T.fl32_2 T.fl32_3 T.bu32 T.sz34 T.by34 T.ag34 T.ze34 T.fl34_0 T.fl34_1 T.fl34_2 T.bu34 T.sz37 T.ag37 T.ze37 T.fl37_0 T.fl37_1 T.bu37 T.sl41 T.ik41 T.us41 T.sz44 T.by44 T.ag44 T.ze44 T.bu44 T.sz61 T.ag61 T.sl61 T.ar61 T.pt61 T.ik61 T.us61 T.ze61 T.sz66 T.by66 T.ag66 T.ze66 T.fl66_0 T.fl66_1 T.fl66_2 T.fl66_3 T.fl66_4 T.fl66_5 T.fl66_6 T.fl66_7 T.fl66_8 T.bu66 T.sl71 T.sz80 T.ag80 T.ze80 T.sl81 T.ik94 T.us94 T.sl112
section
set_option maxRecDepth 20000
attribute [local go_sem] eqk27' clKnsL clKns
theorem setKn (l : List Kn) (i : Nat) (k : Kn) : (l.map KnC).set i (KnC k) = (l.set i k).map KnC := by rw [List.map_set]
theorem getKn {l : List Kn} {i : Nat} (h : i < l.length) : (l.map KnC)[i]? = some (KnC (l.getD i zK)) := by rw [List.getElem?_map, getK h]; rfl
theorem takeKn (l : List Kn) : takeA 0 l.length (l.map KnC) = l.map KnC := by rw [takeA_eq, List.drop_zero, List.take_of_length_le (by simp)]
theorem setSelf {α : Type} {l : List α} {i : Nat} {x : α} (h : l[i]? = some x) : l.set i x = l := by
  obtain ⟨hi, rfl⟩ := List.getElem?_eq_some_iff.1 h
  exact List.set_getElem_self hi
theorem renL_cl2 {σ : Nat → Nat} {ns : List Nat} {l l' : List (List AV)} (h : l = l') (hc : ∀ c ∈ l', ∀ s ∈ c, Cl s) : RenL σ ns l l' := renL_cl h (h ▸ hc)
theorem AtLoop.st {rec : List It → (AState → Prop) → AState → Prop} {b : Code} {k : List It} {Q : AState → Prop} {n : Nat} {x : Aux} {t : Nat → AV} {h : List (Nat × Blk)} {kk : Nat} (I : Nat → List (Nat × Blk) → (Nat → AV) → Prop) (m0 : Nat) (h0 : I m0 h t)
    (hstep : ∀ (m : Nat) (h : List (Nat × Blk)) (t : Nat → AV) (kk : Nat), I m h t → rec (.c b :: .lp (fun s' => ∃ j : {p : Nat × List (Nat × Blk) × (Nat → AV) × Nat // I p.1 p.2.1 p.2.2.1}, j.1.1 < m ∧ Le s' ⟨n, j.1.2.2.1, j.1.2.1, j.1.2.2.2, x⟩) :: k) Q ⟨n, t, h, kk, x⟩) : AtLoop rec b k Q ⟨n, t, h, kk, x⟩ :=
  ⟨{p : Nat × List (Nat × Blk) × (Nat → AV) × Nat // I p.1 p.2.1 p.2.2.1}, fun j => ⟨n, j.1.2.2.1, j.1.2.1, j.1.2.2.2, x⟩, fun j => j.1.1, ⟨⟨(m0, h, t, kk), h0⟩, fun _ _ _ h => h⟩, fun i => hstep i.1.1 i.1.2.1 i.1.2.2.1 i.1.2.2.2 i.2⟩
theorem st_mk {I : Nat → List (Nat × Blk) → (Nat → AV) → Prop} {n m : Nat} {x : Aux} {t' : Nat → AV} {h' : List (Nat × Blk)} {kk' : Nat} (m' : Nat) (h1 : m' < m) (h2 : I m' h' t') : ∃ j : {p : Nat × List (Nat × Blk) × (Nat → AV) × Nat // I p.1 p.2.1 p.2.2.1}, j.1.1 < m ∧ Le ⟨n, t', h', kk', x⟩ ⟨n, j.1.2.2.1, j.1.2.1, j.1.2.2.2, x⟩ :=
  ⟨⟨(m', h', t', kk'), h2⟩, h1, fun _ _ _ h => h⟩
/-- The ends of a path, one behind the other. -/
def s3I (l : List Kn) : Nat → List Kn
  | 0 => l
  | 1 => s3A l
  | _ => s3B (s3A l)
def endI (cur : List Kn) (m : Nat) (h : List (Nat × Blk)) (t : Nat → AV) : Prop :=
  m ≤ 2 ∧ t 0 = .sl 0 0 cur.length ∧ t 132 = .ro 1 [[.ptr 0 0 7], [.ptr 0 (cur.length - 1) 2]] ∧ t 133 = I 2 ∧ t 134 = I ((2 - m : Nat) : Int) ∧ h = [(0, ⟨12, (s3I cur (2 - m)).map KnC⟩)]
theorem setGetD (l : List Kn) (i : Nat) : l.set i (l.getD i zK) = l := by
  by_cases h : i < l.length
  · exact setSelf (getK h)
  · exact List.set_eq_of_length_le (by omega)
set_option maxHeartbeats 4000000 in
theorem settled26 (l : List Kn) (c : Bool) (hv : validK l c = true) : NFun Try.prog 26 [Kns l, Bo c] 12 ((settledW l c).map KnC) := by
  obtain ⟨hl1, hl2⟩ := valid_len hv
  have hb := valid_b hv
  have hsl := segs_le (l := l) (c := c)
  refine MFun.toN ?_ ((clKnsL _).2 trivial)
  refine MFun.intro 400 [4] mixed Try.func26 (by kernel_rfl) rfl (by rw [Try.results26]; rfl) (Nat.le_of_ble_eq_true rfl) ?_; rw [Try.ntmps26]
  simp -dsimp -implicitDefEqProofs (maxSteps := 1000000) only [go_sem, ↓reduceIte, Nat.reduceAdd, Nat.reduceSub, Nat.reduceMul, Nat.reduceLT, Nat.reduceLeDiff, Nat.reduceEqDiff, Nat.reduceBEq, Nat.reduceBNe, Int.reduceToNat, Int.reduceLT, Int.reduceLE, Int.reduceNeg, reduceCtorEq, Int.reduceEq, Int.reduceNe]
  refine AtFn.new (clone43 l (by omega)) ?_
  simp -dsimp -implicitDefEqProofs (maxSteps := 1000000) only [go_sem, ↓reduceIte, Nat.reduceAdd, Nat.reduceSub, Nat.reduceMul, Nat.reduceLT, Nat.reduceLeDiff, Nat.reduceEqDiff, Nat.reduceBEq, Nat.reduceBNe, Int.reduceToNat, Int.reduceLT, Int.reduceLE, Int.reduceNeg, reduceCtorEq, Int.reduceEq, Int.reduceNe]
  refine AtFn.keep (many31 l c hl1 (by omega)) ?_
  simp -dsimp -implicitDefEqProofs (maxSteps := 1000000) only [go_sem, ↓reduceIte, Nat.reduceAdd, Nat.reduceSub, Nat.reduceMul, Nat.reduceLT, Nat.reduceLeDiff, Nat.reduceEqDiff, Nat.reduceBEq, Nat.reduceBNe, Int.reduceToNat, Int.reduceLT, Int.reduceLE, Int.reduceNeg, reduceCtorEq, Int.reduceEq, Int.reduceNe, List.length_map, Nat.zero_add, Nat.le_refl, takeKn]
  obtain ⟨n, hn⟩ : ∃ n, n = segs l c := ⟨_, rfl⟩
  have hnl : n ≤ l.length := by omega
  rw [← hn]
  refine ⟨{i : Nat // i ≤ n}, fun i => ⟨151, tl [(0, .sl 0 0 l.length), (1, Bo c), (19, I (n : Nat)), (20, I i.1)], [(0, ⟨12, (s1N i.1 l).map KnC⟩)], 1, ⟨[tl []], some (.mp none)⟩⟩, fun i => n - i.1,
    ⟨⟨0, by omega⟩, Le.tl (Ls := [[]]) [] (by simp -dsimp -implicitDefEqProofs (maxSteps := 1000000) only [go_sem, ↓reduceIte, Nat.reduceAdd, Nat.reduceSub, Nat.reduceMul, Nat.reduceLT, Nat.reduceLeDiff, Nat.reduceEqDiff, Nat.reduceBEq, Nat.reduceBNe, Int.reduceToNat, Int.reduceLT, Int.reduceLE, Int.reduceNeg, reduceCtorEq, Int.reduceEq, Int.reduceNe]) ?_ (by simp) (by simp [sg]) ⟨by simp -dsimp -implicitDefEqProofs (maxSteps := 1000000) only [go_sem, ↓reduceIte, Nat.reduceAdd, Nat.reduceSub, Nat.reduceMul, Nat.reduceLT, Nat.reduceLeDiff, Nat.reduceEqDiff, Nat.reduceBEq, Nat.reduceBNe, Int.reduceToNat, Int.reduceLT, Int.reduceLE, Int.reduceNeg, reduceCtorEq, Int.reduceEq, Int.reduceNe], trivial⟩⟩, fun i => ?_⟩
  · simp -dsimp -implicitDefEqProofs (maxSteps := 1000000) only [go_sem, ↓reduceIte, Nat.reduceAdd, Nat.reduceSub, Nat.reduceMul, Nat.reduceLT, Nat.reduceLeDiff, Nat.reduceEqDiff, Nat.reduceBEq, Nat.reduceBNe, Int.reduceToNat, Int.reduceLT, Int.reduceLE, Int.reduceNeg, reduceCtorEq, Int.reduceEq, Int.reduceNe]
    exact renL_cl rfl ((clKnsL _).2 trivial)
  obtain ⟨i, hi⟩ := i
  simp -dsimp -implicitDefEqProofs (maxSteps := 1000000) only [go_sem, ↓reduceIte, Nat.reduceAdd, Nat.reduceSub, Nat.reduceMul, Nat.reduceLT, Nat.reduceLeDiff, Nat.reduceEqDiff, Nat.reduceBEq, Nat.reduceBNe, Int.reduceToNat, Int.reduceLT, Int.reduceLE, Int.reduceNeg, reduceCtorEq, Int.reduceEq, Int.reduceNe, List.length_map]
  refine ⟨fun h => ?_, fun hout => ?_⟩
  · have hlt : i < n := by omega
    have hil : i < l.length := by omega
    obtain ⟨cur, hcur⟩ : ∃ cur, cur = s1N i l := ⟨_, rfl⟩
    have hcl : cur.length = l.length := by rw [hcur, s1N_len]
    have hjl : (i + 1) % cur.length < cur.length := Nat.mod_lt _ (by omega)
    have e3 : wr ((i : Int) + 1) = ((i + 1 : Nat) : Int) := by rw [wr_in] <;> omega
    have e4 : (((i + 1 : Nat) : Int)).tmod (l.length : Int) = (((i + 1) % l.length : Nat) : Int) := tmodN _ _
    have e5 : wr (((i + 1) % l.length : Nat) : Int) = (((i + 1) % l.length : Nat) : Int) := wr_in (by omega) (by rw [← hcl]; omega)
    rw [← hcl] at e4 e5
    have hgi := getKn (l := cur) (i := i) (by omega)
    have hgj := getKn hjl
    obtain ⟨z, hz⟩ : ∃ z, z = cur.getD i zK := ⟨_, rfl⟩
    obtain ⟨j, hj⟩ : ∃ j, j = (i + 1) % cur.length := ⟨_, rfl⟩
    obtain ⟨w, hw⟩ : ∃ w, w = cur.getD j zK := ⟨_, rfl⟩
    rw [← hj] at hjl hgj e4 e5
    rw [← hz] at hgi
    rw [← hw] at hgj
    have hs : s1N (i + 1) l = s1 cur i := by rw [s1N, ← hcur]
    have hn0 : ¬ ((cur.length : Nat) : Int) = 0 := by omega
    have c1 : (i : Int) < ((cur.length : Nat) : Int) := by omega
    have c2 : (j : Int) < ((cur.length : Nat) : Int) := by omega
    rw [← hcl, ← hcur]
    simp -dsimp -implicitDefEqProofs (maxSteps := 1000000) only [go_sem, ↓reduceIte, Nat.reduceAdd, Nat.reduceSub, Nat.reduceMul, Nat.reduceLT, Nat.reduceLeDiff, Nat.reduceEqDiff, Nat.reduceBEq, Nat.reduceBNe, Int.reduceToNat, Int.reduceLT, Int.reduceLE, Int.reduceNeg, reduceCtorEq, Int.reduceEq, Int.reduceNe, e3, e4, e5, hn0, c1, c2, Int.toNat_natCast, Int.natCast_nonneg, hgi, hgj, Nat.zero_add]
    refine AtCode.draw 19 [([], []), ([], []), ([0, 1], []), ([0, 1, 2], []), ([0, 1, 2, 3], []), ([0, 1, 2, 3, 4], []), ([0, 1, 2, 3, 4, 5], []), ([0, 1, 2, 3, 4, 5, 6], []), ([0, 1, 2, 3, 4, 5, 6, 7], []), ([0, 1, 2, 3, 4, 5, 6, 7], []), ([0, 1, 2, 3, 4, 5, 6, 7, 8, 9], []), ([0, 1, 2, 3, 4, 5, 6, 7, 8, 9, 10], []), ([0, 1, 2, 3, 4, 5, 6, 7, 8, 9, 10, 11], []), ([0, 1, 2, 3, 4, 5, 6, 7], []), ([0, 1, 2, 3, 4, 5, 6, 7, 13], []), ([0, 1, 2, 3, 4, 5, 6, 7, 13, 14], []), ([0, 1, 2, 3, 4, 5, 6, 7, 13, 14, 15], []), ([0, 1, 2, 3, 4, 5, 6, 7, 8, 9, 10, 11, 12, 13, 14, 15, 16], []), ([0, 1, 2, 3, 4, 5, 6, 7, 8, 9, 10, 11, 12, 13, 14, 15, 16, 17], [])] (by kernel_rfl) ?_
    by_cases k1 : z.l.op = 3
    · simp -dsimp -implicitDefEqProofs (maxSteps := 1000000) only [go_sem, ↓reduceIte, Nat.reduceAdd, Nat.reduceSub, Nat.reduceMul, Nat.reduceLT, Nat.reduceLeDiff, Nat.reduceEqDiff, Nat.reduceBEq, Nat.reduceBNe, Int.reduceToNat, Int.reduceLT, Int.reduceLE, Int.reduceNeg, reduceCtorEq, Int.reduceEq, Int.reduceNe, c1, c2, Int.toNat_natCast, Int.natCast_nonneg, hgi, hgj, Nat.zero_add, k1]
      have hno : s1 cur i = cur := by unfold s1; rw [if_neg (fun q => q.1 (by rw [← hz]; exact k1))]
      refine ⟨⟨i + 1, by omega⟩, by show n - (i + 1) < n - i; omega, Le.tl (Ls := [[]]) [] (by simp -dsimp -implicitDefEqProofs (maxSteps := 1000000) only [go_sem, ↓reduceIte, Nat.reduceAdd, Nat.reduceSub, Nat.reduceMul, Nat.reduceLT, Nat.reduceLeDiff, Nat.reduceEqDiff, Nat.reduceBEq, Nat.reduceBNe, Int.reduceToNat, Int.reduceLT, Int.reduceLE, Int.reduceNeg, reduceCtorEq, Int.reduceEq, Int.reduceNe, e3]) ?_ (by simp) (by simp [sg]) ⟨by simp -dsimp -implicitDefEqProofs (maxSteps := 1000000) only [go_sem, ↓reduceIte, Nat.reduceAdd, Nat.reduceSub, Nat.reduceMul, Nat.reduceLT, Nat.reduceLeDiff, Nat.reduceEqDiff, Nat.reduceBEq, Nat.reduceBNe, Int.reduceToNat, Int.reduceLT, Int.reduceLE, Int.reduceNeg, reduceCtorEq, Int.reduceEq, Int.reduceNe], trivial⟩⟩
      simp -dsimp -implicitDefEqProofs (maxSteps := 1000000) only [go_sem, ↓reduceIte, Nat.reduceAdd, Nat.reduceSub, Nat.reduceMul, Nat.reduceLT, Nat.reduceLeDiff, Nat.reduceEqDiff, Nat.reduceBEq, Nat.reduceBNe, Int.reduceToNat, Int.reduceLT, Int.reduceLE, Int.reduceNeg, reduceCtorEq, Int.reduceEq, Int.reduceNe, hs, hno]
      exact renL_cl rfl ((clKnsL _).2 trivial)
    by_cases k2 : [z.x, z.y] = [w.x, w.y]
    · have k3 : z.x = w.x ∧ z.y = w.y := by simpa using k2
      have hyes : s1 cur i = s1B (s1A cur i) j (fixS w.x w.y) := by
        unfold s1
        rw [if_pos, ← hj, ← hw]
        refine ⟨by rw [← hz]; exact k1, ?_⟩
        rw [← hz, ← hj, ← hw]
        exact k3
      obtain ⟨l1, hl1'⟩ : ∃ l1, l1 = s1A cur i := ⟨_, rfl⟩
      rw [← hl1'] at hyes
      have hl1l : l1.length = cur.length := by rw [hl1']; unfold s1A; simp
      have hset1 : (cur.map KnC).set i [I z.x, I z.y, I z.c.op, I z.c.t, I z.c.v, I z.c.x, I z.c.y, I 3, I 0, I 0, I w.x, I w.y] = l1.map KnC := by
        rw [hl1']
        unfold s1A
        rw [← setKn, ← hj, ← hz, ← hw]
        rfl
      have hg1i := getKn (l := l1) (i := i) (by omega)
      have hg1j := getKn (l := l1) (i := j) (by omega)
      have hl1i : (l1.getD i zK).l = fixS w.x w.y := by
        rw [hl1']
        unfold s1A
        rw [getD_set (by omega), if_pos rfl, ← hj, ← hw]
      obtain ⟨v, hv1⟩ : ∃ v, v = l1.getD j zK := ⟨_, rfl⟩
      obtain ⟨z1, hz1⟩ : ∃ z1, z1 = l1.getD i zK := ⟨_, rfl⟩
      rw [← hv1] at hg1j
      rw [← hz1] at hg1i hl1i
      have f1 : z1.l.op = 3 := by rw [hl1i]; rfl
      have f2 : z1.l.t = 0 := by rw [hl1i]; rfl
      have f3 : z1.l.v = 0 := by rw [hl1i]; rfl
      have f4 : z1.l.x = w.x := by rw [hl1i]; rfl
      have f5 : z1.l.y = w.y := by rw [hl1i]; rfl
      have hset2 : (l1.map KnC).set j [I v.x, I v.y, I 3, I 0, I 0, I w.x, I w.y, I v.l.op, I v.l.t, I v.l.v, I v.l.x, I v.l.y] = (s1 cur i).map KnC := by
        rw [hyes]
        unfold s1B
        rw [← setKn, ← hv1]
        rfl
      simp -dsimp -implicitDefEqProofs (maxSteps := 1000000) only [go_sem, ↓reduceIte, Nat.reduceAdd, Nat.reduceSub, Nat.reduceMul, Nat.reduceLT, Nat.reduceLeDiff, Nat.reduceEqDiff, Nat.reduceBEq, Nat.reduceBNe, Int.reduceToNat, Int.reduceLT, Int.reduceLE, Int.reduceNeg, reduceCtorEq, Int.reduceEq, Int.reduceNe, c1, c2, Int.toNat_natCast, Int.natCast_nonneg, hgi, hgj, Nat.zero_add, k1, k2, hset1, hg1i, hg1j, f1, f2, f3, f4, f5, hset2]
      refine ⟨⟨i + 1, by omega⟩, by show n - (i + 1) < n - i; omega, Le.tl (Ls := [[]]) [] (by simp -dsimp -implicitDefEqProofs (maxSteps := 1000000) only [go_sem, ↓reduceIte, Nat.reduceAdd, Nat.reduceSub, Nat.reduceMul, Nat.reduceLT, Nat.reduceLeDiff, Nat.reduceEqDiff, Nat.reduceBEq, Nat.reduceBNe, Int.reduceToNat, Int.reduceLT, Int.reduceLE, Int.reduceNeg, reduceCtorEq, Int.reduceEq, Int.reduceNe, e3]) ?_ (by simp) (by simp [sg]) ⟨by simp -dsimp -implicitDefEqProofs (maxSteps := 1000000) only [go_sem, ↓reduceIte, Nat.reduceAdd, Nat.reduceSub, Nat.reduceMul, Nat.reduceLT, Nat.reduceLeDiff, Nat.reduceEqDiff, Nat.reduceBEq, Nat.reduceBNe, Int.reduceToNat, Int.reduceLT, Int.reduceLE, Int.reduceNeg, reduceCtorEq, Int.reduceEq, Int.reduceNe], trivial⟩⟩
      simp -dsimp -implicitDefEqProofs (maxSteps := 1000000) only [go_sem, ↓reduceIte, Nat.reduceAdd, Nat.reduceSub, Nat.reduceMul, Nat.reduceLT, Nat.reduceLeDiff, Nat.reduceEqDiff, Nat.reduceBEq, Nat.reduceBNe, Int.reduceToNat, Int.reduceLT, Int.reduceLE, Int.reduceNeg, reduceCtorEq, Int.reduceEq, Int.reduceNe, hs]
      exact renL_cl rfl ((clKnsL _).2 trivial)
    · simp -dsimp -implicitDefEqProofs (maxSteps := 1000000) only [go_sem, ↓reduceIte, Nat.reduceAdd, Nat.reduceSub, Nat.reduceMul, Nat.reduceLT, Nat.reduceLeDiff, Nat.reduceEqDiff, Nat.reduceBEq, Nat.reduceBNe, Int.reduceToNat, Int.reduceLT, Int.reduceLE, Int.reduceNeg, reduceCtorEq, Int.reduceEq, Int.reduceNe, c1, c2, Int.toNat_natCast, Int.natCast_nonneg, hgi, hgj, Nat.zero_add, k1, k2]
      have hno : s1 cur i = cur := by
        unfold s1
        rw [if_neg]
        rintro ⟨q1, q2⟩
        rw [← hz, ← hj, ← hw] at q2
        exact k2 (by rw [q2.1, q2.2])
      refine ⟨⟨i + 1, by omega⟩, by show n - (i + 1) < n - i; omega, Le.tl (Ls := [[]]) [] (by simp -dsimp -implicitDefEqProofs (maxSteps := 1000000) only [go_sem, ↓reduceIte, Nat.reduceAdd, Nat.reduceSub, Nat.reduceMul, Nat.reduceLT, Nat.reduceLeDiff, Nat.reduceEqDiff, Nat.reduceBEq, Nat.reduceBNe, Int.reduceToNat, Int.reduceLT, Int.reduceLE, Int.reduceNeg, reduceCtorEq, Int.reduceEq, Int.reduceNe, e3]) ?_ (by simp) (by simp [sg]) ⟨by simp -dsimp -implicitDefEqProofs (maxSteps := 1000000) only [go_sem, ↓reduceIte, Nat.reduceAdd, Nat.reduceSub, Nat.reduceMul, Nat.reduceLT, Nat.reduceLeDiff, Nat.reduceEqDiff, Nat.reduceBEq, Nat.reduceBNe, Int.reduceToNat, Int.reduceLT, Int.reduceLE, Int.reduceNeg, reduceCtorEq, Int.reduceEq, Int.reduceNe], trivial⟩⟩
      simp -dsimp -implicitDefEqProofs (maxSteps := 1000000) only [go_sem, ↓reduceIte, Nat.reduceAdd, Nat.reduceSub, Nat.reduceMul, Nat.reduceLT, Nat.reduceLeDiff, Nat.reduceEqDiff, Nat.reduceBEq, Nat.reduceBNe, Int.reduceToNat, Int.reduceLT, Int.reduceLE, Int.reduceNeg, reduceCtorEq, Int.reduceEq, Int.reduceNe, hs, hno]
      exact renL_cl rfl ((clKnsL _).2 trivial)
  · have : i = n := by omega
    subst this
    obtain ⟨l1, hl1'⟩ : ∃ l1, l1 = s1N i l := ⟨_, rfl⟩
    have hll : l1.length = l.length := by rw [hl1', s1N_len]
    have hb1 : bKs l1 := by rw [hl1']; exact s1N_b hb i hnl
    have hset : settledW l c = s3 c (s2N c l.length l1) := by unfold settledW; rw [hl1', hn]
    rw [hset, ← hl1']
    refine ⟨{i : Nat // i ≤ l.length}, fun i => ⟨151, tl [(0, .sl 0 0 l.length), (1, Bo c), (68, I (l.length : Nat)), (69, I i.1)], [(0, ⟨12, (s2N c i.1 l1).map KnC⟩)], 1, ⟨[tl []], some (.mp none)⟩⟩, fun i => l.length - i.1,
      ⟨⟨0, by omega⟩, Le.tl (Ls := [[]]) [] (by simp -dsimp -implicitDefEqProofs (maxSteps := 1000000) only [go_sem, ↓reduceIte, Nat.reduceAdd, Nat.reduceSub, Nat.reduceMul, Nat.reduceLT, Nat.reduceLeDiff, Nat.reduceEqDiff, Nat.reduceBEq, Nat.reduceBNe, Int.reduceToNat, Int.reduceLT, Int.reduceLE, Int.reduceNeg, reduceCtorEq, Int.reduceEq, Int.reduceNe]) ?_ (by simp) (by simp [sg]) ⟨by simp -dsimp -implicitDefEqProofs (maxSteps := 1000000) only [go_sem, ↓reduceIte, Nat.reduceAdd, Nat.reduceSub, Nat.reduceMul, Nat.reduceLT, Nat.reduceLeDiff, Nat.reduceEqDiff, Nat.reduceBEq, Nat.reduceBNe, Int.reduceToNat, Int.reduceLT, Int.reduceLE, Int.reduceNeg, reduceCtorEq, Int.reduceEq, Int.reduceNe], trivial⟩⟩, fun k => ?_⟩
    · simp -dsimp -implicitDefEqProofs (maxSteps := 1000000) only [go_sem, ↓reduceIte, Nat.reduceAdd, Nat.reduceSub, Nat.reduceMul, Nat.reduceLT, Nat.reduceLeDiff, Nat.reduceEqDiff, Nat.reduceBEq, Nat.reduceBNe, Int.reduceToNat, Int.reduceLT, Int.reduceLE, Int.reduceNeg, reduceCtorEq, Int.reduceEq, Int.reduceNe]
      exact renL_cl rfl ((clKnsL _).2 trivial)
    clear hout
    obtain ⟨k, hk⟩ := k
    simp -dsimp -implicitDefEqProofs (maxSteps := 1000000) only [go_sem, ↓reduceIte, Nat.reduceAdd, Nat.reduceSub, Nat.reduceMul, Nat.reduceLT, Nat.reduceLeDiff, Nat.reduceEqDiff, Nat.reduceBEq, Nat.reduceBNe, Int.reduceToNat, Int.reduceLT, Int.reduceLE, Int.reduceNeg, reduceCtorEq, Int.reduceEq, Int.reduceNe, List.length_map]
    refine ⟨fun h => ?_, fun hout => ?_⟩
    · have hkl : k < l.length := by omega
      obtain ⟨cur, hcur⟩ : ∃ cur, cur = s2N c k l1 := ⟨_, rfl⟩
      have hcl : cur.length = l.length := by rw [hcur, s2N_len, hll]
      have e3 : wr ((k : Int) + 1) = ((k + 1 : Nat) : Int) := by rw [wr_in] <;> omega
      have e4 : wr (((cur.length : Nat) : Int) - 1) = ((cur.length - 1 : Nat) : Int) := by rw [wr_in] <;> omega
      have hg := getKn (l := cur) (i := k) (by omega)
      obtain ⟨z, hz⟩ : ∃ z, z = cur.getD k zK := ⟨_, rfl⟩
      rw [← hz] at hg
      have hbz : bK z := by rw [hz, hcur]; exact s2N_b c hb1 k (by omega) k (by rw [s2N_len]; omega)
      have c1 : (k : Int) < ((cur.length : Nat) : Int) := by omega
      have hs : s2N c (k + 1) l1 = if skipC c cur.length k then cur else cur.set k (s2 z) := by rw [s2N, ← hcur, hll, ← hcl, ← hz]
      obtain ⟨hbz1, hbz2, hbz3⟩ := hbz
      have hbz1 := inP_bd hbz1
      have hbz2 := inP_bd hbz2
      have hbz3 := inP_bd hbz3
      simp only at hbz1 hbz2 hbz3
      have m1 : wr (z.x - z.c.x) = z.x - z.c.x := wr_in (by omega) (by omega)
      have m2 : wr (z.y - z.c.y) = z.y - z.c.y := wr_in (by omega) (by omega)
      have m3 : wr (z.l.x - z.x) = z.l.x - z.x := wr_in (by omega) (by omega)
      have m4 : wr (z.l.y - z.y) = z.l.y - z.y := wr_in (by omega) (by omega)
      have mi1 := minus40 (z.x, z.y) (z.c.x, z.c.y)
      have mi2 := minus40 (z.l.x, z.l.y) (z.x, z.y)
      simp only [m1, m2] at mi1
      simp only [m3, m4] at mi2
      have a1 := arg42 (z.x - z.c.x) (z.y - z.c.y) (by omega) (by omega)
      have a2 := arg42 (z.l.x - z.x) (z.l.y - z.y) (by omega) (by omega)
      rw [← hcl, ← hcur]
      by_cases hsk : skipC c cur.length k
      · rw [if_pos hsk] at hs
        obtain ⟨rfl, hsk⟩ := hsk
        by_cases k0 : (k : Int) = 0
        · simp -dsimp -implicitDefEqProofs (maxSteps := 1000000) only [go_sem, ↓reduceIte, Nat.reduceAdd, Nat.reduceSub, Nat.reduceMul, Nat.reduceLT, Nat.reduceLeDiff, Nat.reduceEqDiff, Nat.reduceBEq, Nat.reduceBNe, Int.reduceToNat, Int.reduceLT, Int.reduceLE, Int.reduceNeg, reduceCtorEq, Int.reduceEq, Int.reduceNe, eq_true k0, e4, c1, Int.toNat_natCast, Int.natCast_nonneg, hg, Nat.zero_add]
          refine ⟨⟨k + 1, by omega⟩, by show cur.length - (k + 1) < cur.length - k; omega, Le.tl (Ls := [[]]) [] (by simp -dsimp -implicitDefEqProofs (maxSteps := 1000000) only [go_sem, ↓reduceIte, Nat.reduceAdd, Nat.reduceSub, Nat.reduceMul, Nat.reduceLT, Nat.reduceLeDiff, Nat.reduceEqDiff, Nat.reduceBEq, Nat.reduceBNe, Int.reduceToNat, Int.reduceLT, Int.reduceLE, Int.reduceNeg, reduceCtorEq, Int.reduceEq, Int.reduceNe, e3]) ?_ (by simp) (by simp [sg]) ⟨by simp -dsimp -implicitDefEqProofs (maxSteps := 1000000) only [go_sem, ↓reduceIte, Nat.reduceAdd, Nat.reduceSub, Nat.reduceMul, Nat.reduceLT, Nat.reduceLeDiff, Nat.reduceEqDiff, Nat.reduceBEq, Nat.reduceBNe, Int.reduceToNat, Int.reduceLT, Int.reduceLE, Int.reduceNeg, reduceCtorEq, Int.reduceEq, Int.reduceNe], trivial⟩⟩
          simp -dsimp -implicitDefEqProofs (maxSteps := 1000000) only [go_sem, ↓reduceIte, Nat.reduceAdd, Nat.reduceSub, Nat.reduceMul, Nat.reduceLT, Nat.reduceLeDiff, Nat.reduceEqDiff, Nat.reduceBEq, Nat.reduceBNe, Int.reduceToNat, Int.reduceLT, Int.reduceLE, Int.reduceNeg, reduceCtorEq, Int.reduceEq, Int.reduceNe, hs]
          exact renL_cl rfl ((clKnsL _).2 trivial)
        · have k1 : (k : Int) = ((cur.length - 1 : Nat) : Int) := by omega
          simp -dsimp -implicitDefEqProofs (maxSteps := 1000000) only [go_sem, ↓reduceIte, Nat.reduceAdd, Nat.reduceSub, Nat.reduceMul, Nat.reduceLT, Nat.reduceLeDiff, Nat.reduceEqDiff, Nat.reduceBEq, Nat.reduceBNe, Int.reduceToNat, Int.reduceLT, Int.reduceLE, Int.reduceNeg, reduceCtorEq, Int.reduceEq, Int.reduceNe, k0, eq_true k1, e4, c1, Int.toNat_natCast, Int.natCast_nonneg, hg, Nat.zero_add]
          refine ⟨⟨k + 1, by omega⟩, by show cur.length - (k + 1) < cur.length - k; omega, Le.tl (Ls := [[]]) [] (by simp -dsimp -implicitDefEqProofs (maxSteps := 1000000) only [go_sem, ↓reduceIte, Nat.reduceAdd, Nat.reduceSub, Nat.reduceMul, Nat.reduceLT, Nat.reduceLeDiff, Nat.reduceEqDiff, Nat.reduceBEq, Nat.reduceBNe, Int.reduceToNat, Int.reduceLT, Int.reduceLE, Int.reduceNeg, reduceCtorEq, Int.reduceEq, Int.reduceNe, e3]) ?_ (by simp) (by simp [sg]) ⟨by simp -dsimp -implicitDefEqProofs (maxSteps := 1000000) only [go_sem, ↓reduceIte, Nat.reduceAdd, Nat.reduceSub, Nat.reduceMul, Nat.reduceLT, Nat.reduceLeDiff, Nat.reduceEqDiff, Nat.reduceBEq, Nat.reduceBNe, Int.reduceToNat, Int.reduceLT, Int.reduceLE, Int.reduceNeg, reduceCtorEq, Int.reduceEq, Int.reduceNe], trivial⟩⟩
          simp -dsimp -implicitDefEqProofs (maxSteps := 1000000) only [go_sem, ↓reduceIte, Nat.reduceAdd, Nat.reduceSub, Nat.reduceMul, Nat.reduceLT, Nat.reduceLeDiff, Nat.reduceEqDiff, Nat.reduceBEq, Nat.reduceBNe, Int.reduceToNat, Int.reduceLT, Int.reduceLE, Int.reduceNeg, reduceCtorEq, Int.reduceEq, Int.reduceNe, hs]
          exact renL_cl rfl ((clKnsL _).2 trivial)
      · rw [if_neg hsk] at hs
        have g1 : z.l.op = 0 → z.c.op = 0 → (cur.map KnC) = (cur.set k (s2 z)).map KnC := fun q1 q2 => by
          have : s2 z = z := by simp [s2, likeW, q1, q2]
          rw [this, hz, ← setKn]
          rw [hz] at hg; exact (setSelf hg).symm
        have g2 : ¬ z.l.op = 0 → ¬ z.c.op = 0 → (cur.map KnC) = (cur.set k (s2 z)).map KnC := fun q1 q2 => by
          have : s2 z = z := by simp [s2, likeW, q1, q2]
          rw [this, hz, ← setKn]
          rw [hz] at hg; exact (setSelf hg).symm
        have fin : ∀ L, L = KnC (s2 z) → (cur.map KnC).set k L = (cur.set k (s2 z)).map KnC := fun L h => by rw [h, setKn]
        have gs : ∀ x : List AV, ((cur.map KnC).set k x)[k]? = some x := fun x => List.getElem?_set_self (by rw [List.length_map]; omega)
        cases c with
        | true =>
          by_cases p1 : z.l.op = 0
          · by_cases p2 : z.c.op = 0
            · skip
              simp -dsimp -implicitDefEqProofs (maxSteps := 1000000) only [go_sem, ↓reduceIte, Nat.reduceAdd, Nat.reduceSub, Nat.reduceMul, Nat.reduceLT, Nat.reduceLeDiff, Nat.reduceEqDiff, Nat.reduceBEq, Nat.reduceBNe, Int.reduceToNat, Int.reduceLT, Int.reduceLE, Int.reduceNeg, reduceCtorEq, Int.reduceEq, Int.reduceNe, e4, e4, c1, Int.toNat_natCast, Int.natCast_nonneg, hg, Nat.zero_add]
              refine AtCode.drawB 10 [([], []), ([0], []), ([0, 1], []), ([0, 1, 2], []), ([], [9]), ([4], [9]), ([4, 5], [9]), ([4, 5, 6], [9]), ([], []), ([], []), ([0, 1, 2, 3, 8, 9], []), ([0, 1, 2, 3, 4, 5, 6, 7, 8, 9, 10], [])] [false, true] (by kernel_rfl) ?_
              simp -dsimp -implicitDefEqProofs (maxSteps := 1000000) only [go_sem, ↓reduceIte, Nat.reduceAdd, Nat.reduceSub, Nat.reduceMul, Nat.reduceLT, Nat.reduceLeDiff, Nat.reduceEqDiff, Nat.reduceBEq, Nat.reduceBNe, Int.reduceToNat, Int.reduceLT, Int.reduceLE, Int.reduceNeg, reduceCtorEq, Int.reduceEq, Int.reduceNe, e4, c1, Int.toNat_natCast, Int.natCast_nonneg, hg, Nat.zero_add]
              refine ⟨by kernel_rfl, ?_⟩
              refine AtCode.draw 11 [([], []), ([0], []), ([0, 1], []), ([], []), ([], []), ([4], []), ([4, 5], []), ([4, 5, 6], []), ([], []), ([8], []), ([4, 5, 6, 7, 8, 9], []), ([0, 1, 2, 3, 4, 5, 6, 7, 8, 9, 10], [])] (by kernel_rfl) ?_
              simp -dsimp -implicitDefEqProofs (maxSteps := 1000000) only [go_sem, ↓reduceIte, Nat.reduceAdd, Nat.reduceSub, Nat.reduceMul, Nat.reduceLT, Nat.reduceLeDiff, Nat.reduceEqDiff, Nat.reduceBEq, Nat.reduceBNe, Int.reduceToNat, Int.reduceLT, Int.reduceLE, Int.reduceNeg, reduceCtorEq, Int.reduceEq, Int.reduceNe, e4, c1, Int.toNat_natCast, Int.natCast_nonneg, hg, Nat.zero_add]
              refine QFn.use _ mi1 (by simp -dsimp -implicitDefEqProofs (maxSteps := 1000000) only [go_sem, ↓reduceIte, Nat.reduceAdd, Nat.reduceSub, Nat.reduceMul, Nat.reduceLT, Nat.reduceLeDiff, Nat.reduceEqDiff, Nat.reduceBEq, Nat.reduceBNe, Int.reduceToNat, Int.reduceLT, Int.reduceLE, Int.reduceNeg, reduceCtorEq, Int.reduceEq, Int.reduceNe]) ?_
              simp -dsimp -implicitDefEqProofs (maxSteps := 1000000) only [go_sem, ↓reduceIte, Nat.reduceAdd, Nat.reduceSub, Nat.reduceMul, Nat.reduceLT, Nat.reduceLeDiff, Nat.reduceEqDiff, Nat.reduceBEq, Nat.reduceBNe, Int.reduceToNat, Int.reduceLT, Int.reduceLE, Int.reduceNeg, reduceCtorEq, Int.reduceEq, Int.reduceNe, e4, c1, Int.toNat_natCast, Int.natCast_nonneg, hg, Nat.zero_add]
              refine AtFn.inl 400 [] mixed Try.func44 (by kernel_rfl) rfl (by rw [Try.results44]; rfl) (Nat.le_of_ble_eq_true rfl) ?_; rw [Try.ntmps44]
              simp -dsimp -implicitDefEqProofs (maxSteps := 1000000) only [go_sem, ↓reduceIte, Nat.reduceAdd, Nat.reduceSub, Nat.reduceMul, Nat.reduceLT, Nat.reduceLeDiff, Nat.reduceEqDiff, Nat.reduceBEq, Nat.reduceBNe, Int.reduceToNat, Int.reduceLT, Int.reduceLE, Int.reduceNeg, reduceCtorEq, Int.reduceEq, Int.reduceNe, p1, p2, hg]
              refine AtCode.draw 11 [([], []), ([0], []), ([0, 1], []), ([], []), ([], []), ([4], []), ([], []), ([6], []), ([6, 7], []), ([6, 7, 8], []), ([4, 5, 6, 7, 8, 9], []), ([0, 1, 2, 3, 4, 5, 6, 7, 8, 9, 10], [])] (by kernel_rfl) ?_
              simp -dsimp -implicitDefEqProofs (maxSteps := 1000000) only [go_sem, ↓reduceIte, Nat.reduceAdd, Nat.reduceSub, Nat.reduceMul, Nat.reduceLT, Nat.reduceLeDiff, Nat.reduceEqDiff, Nat.reduceBEq, Nat.reduceBNe, Int.reduceToNat, Int.reduceLT, Int.reduceLE, Int.reduceNeg, reduceCtorEq, Int.reduceEq, Int.reduceNe, c1, Int.toNat_natCast, Int.natCast_nonneg, hg, Nat.zero_add, gs]
              refine QFn.use _ mi2 (by simp -dsimp -implicitDefEqProofs (maxSteps := 1000000) only [go_sem, ↓reduceIte, Nat.reduceAdd, Nat.reduceSub, Nat.reduceMul, Nat.reduceLT, Nat.reduceLeDiff, Nat.reduceEqDiff, Nat.reduceBEq, Nat.reduceBNe, Int.reduceToNat, Int.reduceLT, Int.reduceLE, Int.reduceNeg, reduceCtorEq, Int.reduceEq, Int.reduceNe]) ?_
              simp -dsimp -implicitDefEqProofs (maxSteps := 1000000) only [go_sem, ↓reduceIte, Nat.reduceAdd, Nat.reduceSub, Nat.reduceMul, Nat.reduceLT, Nat.reduceLeDiff, Nat.reduceEqDiff, Nat.reduceBEq, Nat.reduceBNe, Int.reduceToNat, Int.reduceLT, Int.reduceLE, Int.reduceNeg, reduceCtorEq, Int.reduceEq, Int.reduceNe, c1, Int.toNat_natCast, Int.natCast_nonneg, hg, Nat.zero_add, gs]
              refine AtFn.inl 400 [] mixed Try.func44 (by kernel_rfl) rfl (by rw [Try.results44]; rfl) (Nat.le_of_ble_eq_true rfl) ?_; rw [Try.ntmps44]
              simp -dsimp -implicitDefEqProofs (maxSteps := 1000000) only [go_sem, ↓reduceIte, Nat.reduceAdd, Nat.reduceSub, Nat.reduceMul, Nat.reduceLT, Nat.reduceLeDiff, Nat.reduceEqDiff, Nat.reduceBEq, Nat.reduceBNe, Int.reduceToNat, Int.reduceLT, Int.reduceLE, Int.reduceNeg, reduceCtorEq, Int.reduceEq, Int.reduceNe, p1, p2, hg]
              refine ⟨⟨k + 1, by omega⟩, by show cur.length - (k + 1) < cur.length - k; omega, Le.tl (Ls := [[]]) [] (by simp -dsimp -implicitDefEqProofs (maxSteps := 1000000) only [go_sem, ↓reduceIte, Nat.reduceAdd, Nat.reduceSub, Nat.reduceMul, Nat.reduceLT, Nat.reduceLeDiff, Nat.reduceEqDiff, Nat.reduceBEq, Nat.reduceBNe, Int.reduceToNat, Int.reduceLT, Int.reduceLE, Int.reduceNeg, reduceCtorEq, Int.reduceEq, Int.reduceNe, e3]) ?_ (by simp) (by simp [sg]) ⟨by simp -dsimp -implicitDefEqProofs (maxSteps := 1000000) only [go_sem, ↓reduceIte, Nat.reduceAdd, Nat.reduceSub, Nat.reduceMul, Nat.reduceLT, Nat.reduceLeDiff, Nat.reduceEqDiff, Nat.reduceBEq, Nat.reduceBNe, Int.reduceToNat, Int.reduceLT, Int.reduceLE, Int.reduceNeg, reduceCtorEq, Int.reduceEq, Int.reduceNe], trivial⟩⟩
              simp -dsimp -implicitDefEqProofs (maxSteps := 1000000) only [go_sem, ↓reduceIte, Nat.reduceAdd, Nat.reduceSub, Nat.reduceMul, Nat.reduceLT, Nat.reduceLeDiff, Nat.reduceEqDiff, Nat.reduceBEq, Nat.reduceBNe, Int.reduceToNat, Int.reduceLT, Int.reduceLE, Int.reduceNeg, reduceCtorEq, Int.reduceEq, Int.reduceNe, hs]
              exact renL_cl2 (g1 p1 p2) ((clKnsL _).2 trivial)
            · by_cases p3 : z.c.op = 3
              · by_cases p4 : [z.x - z.c.x, z.y - z.c.y] = [0, 0]
                · have p5 : z.x - z.c.x = 0 ∧ z.y - z.c.y = 0 := by simpa using p4
                  simp -dsimp -implicitDefEqProofs (maxSteps := 1000000) only [go_sem, ↓reduceIte, Nat.reduceAdd, Nat.reduceSub, Nat.reduceMul, Nat.reduceLT, Nat.reduceLeDiff, Nat.reduceEqDiff, Nat.reduceBEq, Nat.reduceBNe, Int.reduceToNat, Int.reduceLT, Int.reduceLE, Int.reduceNeg, reduceCtorEq, Int.reduceEq, Int.reduceNe, e4, e4, c1, Int.toNat_natCast, Int.natCast_nonneg, hg, Nat.zero_add]
                  refine AtCode.drawB 10 [([], []), ([0], []), ([0, 1], []), ([0, 1, 2], []), ([], [9]), ([4], [9]), ([4, 5], [9]), ([4, 5, 6], [9]), ([], []), ([], []), ([0, 1, 2, 3, 8, 9], []), ([0, 1, 2, 3, 4, 5, 6, 7, 8, 9, 10], [])] [false, true] (by kernel_rfl) ?_
                  simp -dsimp -implicitDefEqProofs (maxSteps := 1000000) only [go_sem, ↓reduceIte, Nat.reduceAdd, Nat.reduceSub, Nat.reduceMul, Nat.reduceLT, Nat.reduceLeDiff, Nat.reduceEqDiff, Nat.reduceBEq, Nat.reduceBNe, Int.reduceToNat, Int.reduceLT, Int.reduceLE, Int.reduceNeg, reduceCtorEq, Int.reduceEq, Int.reduceNe, e4, c1, Int.toNat_natCast, Int.natCast_nonneg, hg, Nat.zero_add]
                  refine ⟨by kernel_rfl, ?_⟩
                  refine AtCode.draw 11 [([], []), ([0], []), ([0, 1], []), ([], []), ([], []), ([4], []), ([4, 5], []), ([4, 5, 6], []), ([], []), ([8], []), ([4, 5, 6, 7, 8, 9], []), ([0, 1, 2, 3, 4, 5, 6, 7, 8, 9, 10], [])] (by kernel_rfl) ?_
                  simp -dsimp -implicitDefEqProofs (maxSteps := 1000000) only [go_sem, ↓reduceIte, Nat.reduceAdd, Nat.reduceSub, Nat.reduceMul, Nat.reduceLT, Nat.reduceLeDiff, Nat.reduceEqDiff, Nat.reduceBEq, Nat.reduceBNe, Int.reduceToNat, Int.reduceLT, Int.reduceLE, Int.reduceNeg, reduceCtorEq, Int.reduceEq, Int.reduceNe, e4, c1, Int.toNat_natCast, Int.natCast_nonneg, hg, Nat.zero_add]
                  refine QFn.use _ mi1 (by simp -dsimp -implicitDefEqProofs (maxSteps := 1000000) only [go_sem, ↓reduceIte, Nat.reduceAdd, Nat.reduceSub, Nat.reduceMul, Nat.reduceLT, Nat.reduceLeDiff, Nat.reduceEqDiff, Nat.reduceBEq, Nat.reduceBNe, Int.reduceToNat, Int.reduceLT, Int.reduceLE, Int.reduceNeg, reduceCtorEq, Int.reduceEq, Int.reduceNe]) ?_
                  simp -dsimp -implicitDefEqProofs (maxSteps := 1000000) only [go_sem, ↓reduceIte, Nat.reduceAdd, Nat.reduceSub, Nat.reduceMul, Nat.reduceLT, Nat.reduceLeDiff, Nat.reduceEqDiff, Nat.reduceBEq, Nat.reduceBNe, Int.reduceToNat, Int.reduceLT, Int.reduceLE, Int.reduceNeg, reduceCtorEq, Int.reduceEq, Int.reduceNe, e4, c1, Int.toNat_natCast, Int.natCast_nonneg, hg, Nat.zero_add]
                  refine AtFn.inl 400 [] mixed Try.func44 (by kernel_rfl) rfl (by rw [Try.results44]; rfl) (Nat.le_of_ble_eq_true rfl) ?_; rw [Try.ntmps44]
                  simp -dsimp -implicitDefEqProofs (maxSteps := 1000000) only [go_sem, ↓reduceIte, Nat.reduceAdd, Nat.reduceSub, Nat.reduceMul, Nat.reduceLT, Nat.reduceLeDiff, Nat.reduceEqDiff, Nat.reduceBEq, Nat.reduceBNe, Int.reduceToNat, Int.reduceLT, Int.reduceLE, Int.reduceNeg, reduceCtorEq, Int.reduceEq, Int.reduceNe, p1, p3, p4, hg, gs, List.set_set]
                  refine AtCode.draw 11 [([], []), ([0], []), ([0, 1], []), ([], []), ([], []), ([4], []), ([], []), ([6], []), ([6, 7], []), ([6, 7, 8], []), ([4, 5, 6, 7, 8, 9], []), ([0, 1, 2, 3, 4, 5, 6, 7, 8, 9, 10], [])] (by kernel_rfl) ?_
                  simp -dsimp -implicitDefEqProofs (maxSteps := 1000000) only [go_sem, ↓reduceIte, Nat.reduceAdd, Nat.reduceSub, Nat.reduceMul, Nat.reduceLT, Nat.reduceLeDiff, Nat.reduceEqDiff, Nat.reduceBEq, Nat.reduceBNe, Int.reduceToNat, Int.reduceLT, Int.reduceLE, Int.reduceNeg, reduceCtorEq, Int.reduceEq, Int.reduceNe, c1, Int.toNat_natCast, Int.natCast_nonneg, hg, Nat.zero_add, gs]
                  refine QFn.use _ mi2 (by simp -dsimp -implicitDefEqProofs (maxSteps := 1000000) only [go_sem, ↓reduceIte, Nat.reduceAdd, Nat.reduceSub, Nat.reduceMul, Nat.reduceLT, Nat.reduceLeDiff, Nat.reduceEqDiff, Nat.reduceBEq, Nat.reduceBNe, Int.reduceToNat, Int.reduceLT, Int.reduceLE, Int.reduceNeg, reduceCtorEq, Int.reduceEq, Int.reduceNe]) ?_
                  simp -dsimp -implicitDefEqProofs (maxSteps := 1000000) only [go_sem, ↓reduceIte, Nat.reduceAdd, Nat.reduceSub, Nat.reduceMul, Nat.reduceLT, Nat.reduceLeDiff, Nat.reduceEqDiff, Nat.reduceBEq, Nat.reduceBNe, Int.reduceToNat, Int.reduceLT, Int.reduceLE, Int.reduceNeg, reduceCtorEq, Int.reduceEq, Int.reduceNe, c1, Int.toNat_natCast, Int.natCast_nonneg, hg, Nat.zero_add, gs]
                  refine AtFn.inl 400 [] mixed Try.func44 (by kernel_rfl) rfl (by rw [Try.results44]; rfl) (Nat.le_of_ble_eq_true rfl) ?_; rw [Try.ntmps44]
                  simp -dsimp -implicitDefEqProofs (maxSteps := 1000000) only [go_sem, ↓reduceIte, Nat.reduceAdd, Nat.reduceSub, Nat.reduceMul, Nat.reduceLT, Nat.reduceLeDiff, Nat.reduceEqDiff, Nat.reduceBEq, Nat.reduceBNe, Int.reduceToNat, Int.reduceLT, Int.reduceLE, Int.reduceNeg, reduceCtorEq, Int.reduceEq, Int.reduceNe, gs, List.set_set]
                  refine ⟨⟨k + 1, by omega⟩, by show cur.length - (k + 1) < cur.length - k; omega, Le.tl (Ls := [[]]) [] (by simp -dsimp -implicitDefEqProofs (maxSteps := 1000000) only [go_sem, ↓reduceIte, Nat.reduceAdd, Nat.reduceSub, Nat.reduceMul, Nat.reduceLT, Nat.reduceLeDiff, Nat.reduceEqDiff, Nat.reduceBEq, Nat.reduceBNe, Int.reduceToNat, Int.reduceLT, Int.reduceLE, Int.reduceNeg, reduceCtorEq, Int.reduceEq, Int.reduceNe, e3]) ?_ (by simp) (by simp [sg]) ⟨by simp -dsimp -implicitDefEqProofs (maxSteps := 1000000) only [go_sem, ↓reduceIte, Nat.reduceAdd, Nat.reduceSub, Nat.reduceMul, Nat.reduceLT, Nat.reduceLeDiff, Nat.reduceEqDiff, Nat.reduceBEq, Nat.reduceBNe, Int.reduceToNat, Int.reduceLT, Int.reduceLE, Int.reduceNeg, reduceCtorEq, Int.reduceEq, Int.reduceNe], trivial⟩⟩
                  simp -dsimp -implicitDefEqProofs (maxSteps := 1000000) only [go_sem, ↓reduceIte, Nat.reduceAdd, Nat.reduceSub, Nat.reduceMul, Nat.reduceLT, Nat.reduceLeDiff, Nat.reduceEqDiff, Nat.reduceBEq, Nat.reduceBNe, Int.reduceToNat, Int.reduceLT, Int.reduceLE, Int.reduceNeg, reduceCtorEq, Int.reduceEq, Int.reduceNe, hs]
                  exact renL_cl2 (fin _ (by simp [s2, likeW, p1, p3, p5])) ((clKnsL _).2 trivial)
                · have p5 : ¬ (z.x - z.c.x = 0 ∧ z.y - z.c.y = 0) := by simpa using p4
                  simp -dsimp -implicitDefEqProofs (maxSteps := 1000000) only [go_sem, ↓reduceIte, Nat.reduceAdd, Nat.reduceSub, Nat.reduceMul, Nat.reduceLT, Nat.reduceLeDiff, Nat.reduceEqDiff, Nat.reduceBEq, Nat.reduceBNe, Int.reduceToNat, Int.reduceLT, Int.reduceLE, Int.reduceNeg, reduceCtorEq, Int.reduceEq, Int.reduceNe, e4, e4, c1, Int.toNat_natCast, Int.natCast_nonneg, hg, Nat.zero_add]
                  refine AtCode.drawB 10 [([], []), ([0], []), ([0, 1], []), ([0, 1, 2], []), ([], [9]), ([4], [9]), ([4, 5], [9]), ([4, 5, 6], [9]), ([], []), ([], []), ([0, 1, 2, 3, 8, 9], []), ([0, 1, 2, 3, 4, 5, 6, 7, 8, 9, 10], [])] [false, true] (by kernel_rfl) ?_
                  simp -dsimp -implicitDefEqProofs (maxSteps := 1000000) only [go_sem, ↓reduceIte, Nat.reduceAdd, Nat.reduceSub, Nat.reduceMul, Nat.reduceLT, Nat.reduceLeDiff, Nat.reduceEqDiff, Nat.reduceBEq, Nat.reduceBNe, Int.reduceToNat, Int.reduceLT, Int.reduceLE, Int.reduceNeg, reduceCtorEq, Int.reduceEq, Int.reduceNe, e4, c1, Int.toNat_natCast, Int.natCast_nonneg, hg, Nat.zero_add]
                  refine ⟨by kernel_rfl, ?_⟩
                  refine AtCode.draw 11 [([], []), ([0], []), ([0, 1], []), ([], []), ([], []), ([4], []), ([4, 5], []), ([4, 5, 6], []), ([], []), ([8], []), ([4, 5, 6, 7, 8, 9], []), ([0, 1, 2, 3, 4, 5, 6, 7, 8, 9, 10], [])] (by kernel_rfl) ?_
                  simp -dsimp -implicitDefEqProofs (maxSteps := 1000000) only [go_sem, ↓reduceIte, Nat.reduceAdd, Nat.reduceSub, Nat.reduceMul, Nat.reduceLT, Nat.reduceLeDiff, Nat.reduceEqDiff, Nat.reduceBEq, Nat.reduceBNe, Int.reduceToNat, Int.reduceLT, Int.reduceLE, Int.reduceNeg, reduceCtorEq, Int.reduceEq, Int.reduceNe, e4, c1, Int.toNat_natCast, Int.natCast_nonneg, hg, Nat.zero_add]
                  refine QFn.use _ mi1 (by simp -dsimp -implicitDefEqProofs (maxSteps := 1000000) only [go_sem, ↓reduceIte, Nat.reduceAdd, Nat.reduceSub, Nat.reduceMul, Nat.reduceLT, Nat.reduceLeDiff, Nat.reduceEqDiff, Nat.reduceBEq, Nat.reduceBNe, Int.reduceToNat, Int.reduceLT, Int.reduceLE, Int.reduceNeg, reduceCtorEq, Int.reduceEq, Int.reduceNe]) ?_
                  simp -dsimp -implicitDefEqProofs (maxSteps := 1000000) only [go_sem, ↓reduceIte, Nat.reduceAdd, Nat.reduceSub, Nat.reduceMul, Nat.reduceLT, Nat.reduceLeDiff, Nat.reduceEqDiff, Nat.reduceBEq, Nat.reduceBNe, Int.reduceToNat, Int.reduceLT, Int.reduceLE, Int.reduceNeg, reduceCtorEq, Int.reduceEq, Int.reduceNe, e4, c1, Int.toNat_natCast, Int.natCast_nonneg, hg, Nat.zero_add]
                  refine AtFn.inl 400 [] mixed Try.func44 (by kernel_rfl) rfl (by rw [Try.results44]; rfl) (Nat.le_of_ble_eq_true rfl) ?_; rw [Try.ntmps44]
                  simp -dsimp -implicitDefEqProofs (maxSteps := 1000000) only [go_sem, ↓reduceIte, Nat.reduceAdd, Nat.reduceSub, Nat.reduceMul, Nat.reduceLT, Nat.reduceLeDiff, Nat.reduceEqDiff, Nat.reduceBEq, Nat.reduceBNe, Int.reduceToNat, Int.reduceLT, Int.reduceLE, Int.reduceNeg, reduceCtorEq, Int.reduceEq, Int.reduceNe, p1, p3, p4, hg, gs, List.set_set]
                  refine AtFn.pure0 a1 ?_
                  simp -dsimp -implicitDefEqProofs (maxSteps := 1000000) only [go_sem, ↓reduceIte, Nat.reduceAdd, Nat.reduceSub, Nat.reduceMul, Nat.reduceLT, Nat.reduceLeDiff, Nat.reduceEqDiff, Nat.reduceBEq, Nat.reduceBNe, Int.reduceToNat, Int.reduceLT, Int.reduceLE, Int.reduceNeg, reduceCtorEq, Int.reduceEq, Int.reduceNe, gs, List.set_set]
                  refine AtCode.draw 11 [([], []), ([0], []), ([0, 1], []), ([], []), ([], []), ([4], []), ([], []), ([6], []), ([6, 7], []), ([6, 7, 8], []), ([4, 5, 6, 7, 8, 9], []), ([0, 1, 2, 3, 4, 5, 6, 7, 8, 9, 10], [])] (by kernel_rfl) ?_
                  simp -dsimp -implicitDefEqProofs (maxSteps := 1000000) only [go_sem, ↓reduceIte, Nat.reduceAdd, Nat.reduceSub, Nat.reduceMul, Nat.reduceLT, Nat.reduceLeDiff, Nat.reduceEqDiff, Nat.reduceBEq, Nat.reduceBNe, Int.reduceToNat, Int.reduceLT, Int.reduceLE, Int.reduceNeg, reduceCtorEq, Int.reduceEq, Int.reduceNe, c1, Int.toNat_natCast, Int.natCast_nonneg, hg, Nat.zero_add, gs]
                  refine QFn.use _ mi2 (by simp -dsimp -implicitDefEqProofs (maxSteps := 1000000) only [go_sem, ↓reduceIte, Nat.reduceAdd, Nat.reduceSub, Nat.reduceMul, Nat.reduceLT, Nat.reduceLeDiff, Nat.reduceEqDiff, Nat.reduceBEq, Nat.reduceBNe, Int.reduceToNat, Int.reduceLT, Int.reduceLE, Int.reduceNeg, reduceCtorEq, Int.reduceEq, Int.reduceNe]) ?_
                  simp -dsimp -implicitDefEqProofs (maxSteps := 1000000) only [go_sem, ↓reduceIte, Nat.reduceAdd, Nat.reduceSub, Nat.reduceMul, Nat.reduceLT, Nat.reduceLeDiff, Nat.reduceEqDiff, Nat.reduceBEq, Nat.reduceBNe, Int.reduceToNat, Int.reduceLT, Int.reduceLE, Int.reduceNeg, reduceCtorEq, Int.reduceEq, Int.reduceNe, c1, Int.toNat_natCast, Int.natCast_nonneg, hg, Nat.zero_add, gs]
                  refine AtFn.inl 400 [] mixed Try.func44 (by kernel_rfl) rfl (by rw [Try.results44]; rfl) (Nat.le_of_ble_eq_true rfl) ?_; rw [Try.ntmps44]
                  simp -dsimp -implicitDefEqProofs (maxSteps := 1000000) only [go_sem, ↓reduceIte, Nat.reduceAdd, Nat.reduceSub, Nat.reduceMul, Nat.reduceLT, Nat.reduceLeDiff, Nat.reduceEqDiff, Nat.reduceBEq, Nat.reduceBNe, Int.reduceToNat, Int.reduceLT, Int.reduceLE, Int.reduceNeg, reduceCtorEq, Int.reduceEq, Int.reduceNe, gs, List.set_set]
                  refine ⟨⟨k + 1, by omega⟩, by show cur.length - (k + 1) < cur.length - k; omega, Le.tl (Ls := [[]]) [] (by simp -dsimp -implicitDefEqProofs (maxSteps := 1000000) only [go_sem, ↓reduceIte, Nat.reduceAdd, Nat.reduceSub, Nat.reduceMul, Nat.reduceLT, Nat.reduceLeDiff, Nat.reduceEqDiff, Nat.reduceBEq, Nat.reduceBNe, Int.reduceToNat, Int.reduceLT, Int.reduceLE, Int.reduceNeg, reduceCtorEq, Int.reduceEq, Int.reduceNe, e3]) ?_ (by simp) (by simp [sg]) ⟨by simp -dsimp -implicitDefEqProofs (maxSteps := 1000000) only [go_sem, ↓reduceIte, Nat.reduceAdd, Nat.reduceSub, Nat.reduceMul, Nat.reduceLT, Nat.reduceLeDiff, Nat.reduceEqDiff, Nat.reduceBEq, Nat.reduceBNe, Int.reduceToNat, Int.reduceLT, Int.reduceLE, Int.reduceNeg, reduceCtorEq, Int.reduceEq, Int.reduceNe], trivial⟩⟩
                  simp -dsimp -implicitDefEqProofs (maxSteps := 1000000) only [go_sem, ↓reduceIte, Nat.reduceAdd, Nat.reduceSub, Nat.reduceMul, Nat.reduceLT, Nat.reduceLeDiff, Nat.reduceEqDiff, Nat.reduceBEq, Nat.reduceBNe, Int.reduceToNat, Int.reduceLT, Int.reduceLE, Int.reduceNeg, reduceCtorEq, Int.reduceEq, Int.reduceNe, hs]
                  exact renL_cl2 (fin _ (by simp [s2, likeW, p1, p3, p5])) ((clKnsL _).2 trivial)
              · skip
                simp -dsimp -implicitDefEqProofs (maxSteps := 1000000) only [go_sem, ↓reduceIte, Nat.reduceAdd, Nat.reduceSub, Nat.reduceMul, Nat.reduceLT, Nat.reduceLeDiff, Nat.reduceEqDiff, Nat.reduceBEq, Nat.reduceBNe, Int.reduceToNat, Int.reduceLT, Int.reduceLE, Int.reduceNeg, reduceCtorEq, Int.reduceEq, Int.reduceNe, e4, e4, c1, Int.toNat_natCast, Int.natCast_nonneg, hg, Nat.zero_add]
                refine AtCode.drawB 10 [([], []), ([0], []), ([0, 1], []), ([0, 1, 2], []), ([], [9]), ([4], [9]), ([4, 5], [9]), ([4, 5, 6], [9]), ([], []), ([], []), ([0, 1, 2, 3, 8, 9], []), ([0, 1, 2, 3, 4, 5, 6, 7, 8, 9, 10], [])] [false, true] (by kernel_rfl) ?_
                simp -dsimp -implicitDefEqProofs (maxSteps := 1000000) only [go_sem, ↓reduceIte, Nat.reduceAdd, Nat.reduceSub, Nat.reduceMul, Nat.reduceLT, Nat.reduceLeDiff, Nat.reduceEqDiff, Nat.reduceBEq, Nat.reduceBNe, Int.reduceToNat, Int.reduceLT, Int.reduceLE, Int.reduceNeg, reduceCtorEq, Int.reduceEq, Int.reduceNe, e4, c1, Int.toNat_natCast, Int.natCast_nonneg, hg, Nat.zero_add]
                refine ⟨by kernel_rfl, ?_⟩
                refine AtCode.draw 11 [([], []), ([0], []), ([0, 1], []), ([], []), ([], []), ([4], []), ([4, 5], []), ([4, 5, 6], []), ([], []), ([8], []), ([4, 5, 6, 7, 8, 9], []), ([0, 1, 2, 3, 4, 5, 6, 7, 8, 9, 10], [])] (by kernel_rfl) ?_
                simp -dsimp -implicitDefEqProofs (maxSteps := 1000000) only [go_sem, ↓reduceIte, Nat.reduceAdd, Nat.reduceSub, Nat.reduceMul, Nat.reduceLT, Nat.reduceLeDiff, Nat.reduceEqDiff, Nat.reduceBEq, Nat.reduceBNe, Int.reduceToNat, Int.reduceLT, Int.reduceLE, Int.reduceNeg, reduceCtorEq, Int.reduceEq, Int.reduceNe, e4, c1, Int.toNat_natCast, Int.natCast_nonneg, hg, Nat.zero_add]
                refine QFn.use _ mi1 (by simp -dsimp -implicitDefEqProofs (maxSteps := 1000000) only [go_sem, ↓reduceIte, Nat.reduceAdd, Nat.reduceSub, Nat.reduceMul, Nat.reduceLT, Nat.reduceLeDiff, Nat.reduceEqDiff, Nat.reduceBEq, Nat.reduceBNe, Int.reduceToNat, Int.reduceLT, Int.reduceLE, Int.reduceNeg, reduceCtorEq, Int.reduceEq, Int.reduceNe]) ?_
                simp -dsimp -implicitDefEqProofs (maxSteps := 1000000) only [go_sem, ↓reduceIte, Nat.reduceAdd, Nat.reduceSub, Nat.reduceMul, Nat.reduceLT, Nat.reduceLeDiff, Nat.reduceEqDiff, Nat.reduceBEq, Nat.reduceBNe, Int.reduceToNat, Int.reduceLT, Int.reduceLE, Int.reduceNeg, reduceCtorEq, Int.reduceEq, Int.reduceNe, e4, c1, Int.toNat_natCast, Int.natCast_nonneg, hg, Nat.zero_add]
                refine AtFn.inl 400 [] mixed Try.func44 (by kernel_rfl) rfl (by rw [Try.results44]; rfl) (Nat.le_of_ble_eq_true rfl) ?_; rw [Try.ntmps44]
                simp -dsimp -implicitDefEqProofs (maxSteps := 1000000) only [go_sem, ↓reduceIte, Nat.reduceAdd, Nat.reduceSub, Nat.reduceMul, Nat.reduceLT, Nat.reduceLeDiff, Nat.reduceEqDiff, Nat.reduceBEq, Nat.reduceBNe, Int.reduceToNat, Int.reduceLT, Int.reduceLE, Int.reduceNeg, reduceCtorEq, Int.reduceEq, Int.reduceNe, p1, p2, p3, hg, gs, List.set_set]
                refine AtCode.drawB 8 [([], []), ([], [0]), ([], []), ([2], []), ([], [0]), ([4], [0]), ([0, 2, 3], []), ([0, 2, 3, 6], []), ([0, 2, 3, 6, 7], []), ([0, 1, 2, 3, 4, 5, 6, 7, 8], []), ([0, 1, 2, 3, 4, 5, 6, 7, 8, 9], []), ([0, 1, 2, 3, 4, 5, 6, 7, 8, 9, 10], [])] [false, true, true, true] (by kernel_rfl) ?_
                simp -dsimp -implicitDefEqProofs (maxSteps := 1000000) only [go_sem, ↓reduceIte, Nat.reduceAdd, Nat.reduceSub, Nat.reduceMul, Nat.reduceLT, Nat.reduceLeDiff, Nat.reduceEqDiff, Nat.reduceBEq, Nat.reduceBNe, Int.reduceToNat, Int.reduceLT, Int.reduceLE, Int.reduceNeg, reduceCtorEq, Int.reduceEq, Int.reduceNe, p1, p2, p3, hg, gs, List.set_set]
                refine ⟨by kernel_rfl, ?_⟩
                refine AtCode.draw 11 [([], []), ([0], []), ([0, 1], []), ([], []), ([], []), ([4], []), ([], []), ([6], []), ([6, 7], []), ([6, 7, 8], []), ([4, 5, 6, 7, 8, 9], []), ([0, 1, 2, 3, 4, 5, 6, 7, 8, 9, 10], [])] (by kernel_rfl) ?_
                simp -dsimp -implicitDefEqProofs (maxSteps := 1000000) only [go_sem, ↓reduceIte, Nat.reduceAdd, Nat.reduceSub, Nat.reduceMul, Nat.reduceLT, Nat.reduceLeDiff, Nat.reduceEqDiff, Nat.reduceBEq, Nat.reduceBNe, Int.reduceToNat, Int.reduceLT, Int.reduceLE, Int.reduceNeg, reduceCtorEq, Int.reduceEq, Int.reduceNe, c1, Int.toNat_natCast, Int.natCast_nonneg, hg, Nat.zero_add, gs]
                refine QFn.use _ mi2 (by simp -dsimp -implicitDefEqProofs (maxSteps := 1000000) only [go_sem, ↓reduceIte, Nat.reduceAdd, Nat.reduceSub, Nat.reduceMul, Nat.reduceLT, Nat.reduceLeDiff, Nat.reduceEqDiff, Nat.reduceBEq, Nat.reduceBNe, Int.reduceToNat, Int.reduceLT, Int.reduceLE, Int.reduceNeg, reduceCtorEq, Int.reduceEq, Int.reduceNe]) ?_
                simp -dsimp -implicitDefEqProofs (maxSteps := 1000000) only [go_sem, ↓reduceIte, Nat.reduceAdd, Nat.reduceSub, Nat.reduceMul, Nat.reduceLT, Nat.reduceLeDiff, Nat.reduceEqDiff, Nat.reduceBEq, Nat.reduceBNe, Int.reduceToNat, Int.reduceLT, Int.reduceLE, Int.reduceNeg, reduceCtorEq, Int.reduceEq, Int.reduceNe, c1, Int.toNat_natCast, Int.natCast_nonneg, hg, Nat.zero_add, gs]
                refine AtFn.inl 400 [] mixed Try.func44 (by kernel_rfl) rfl (by rw [Try.results44]; rfl) (Nat.le_of_ble_eq_true rfl) ?_; rw [Try.ntmps44]
                simp -dsimp -implicitDefEqProofs (maxSteps := 1000000) only [go_sem, ↓reduceIte, Nat.reduceAdd, Nat.reduceSub, Nat.reduceMul, Nat.reduceLT, Nat.reduceLeDiff, Nat.reduceEqDiff, Nat.reduceBEq, Nat.reduceBNe, Int.reduceToNat, Int.reduceLT, Int.reduceLE, Int.reduceNeg, reduceCtorEq, Int.reduceEq, Int.reduceNe, p2, gs, List.set_set]
                refine ⟨⟨k + 1, by omega⟩, by show cur.length - (k + 1) < cur.length - k; omega, Le.tl (Ls := [[]]) [] (by simp -dsimp -implicitDefEqProofs (maxSteps := 1000000) only [go_sem, ↓reduceIte, Nat.reduceAdd, Nat.reduceSub, Nat.reduceMul, Nat.reduceLT, Nat.reduceLeDiff, Nat.reduceEqDiff, Nat.reduceBEq, Nat.reduceBNe, Int.reduceToNat, Int.reduceLT, Int.reduceLE, Int.reduceNeg, reduceCtorEq, Int.reduceEq, Int.reduceNe, e3]) ?_ (by simp) (by simp [sg]) ⟨by simp -dsimp -implicitDefEqProofs (maxSteps := 1000000) only [go_sem, ↓reduceIte, Nat.reduceAdd, Nat.reduceSub, Nat.reduceMul, Nat.reduceLT, Nat.reduceLeDiff, Nat.reduceEqDiff, Nat.reduceBEq, Nat.reduceBNe, Int.reduceToNat, Int.reduceLT, Int.reduceLE, Int.reduceNeg, reduceCtorEq, Int.reduceEq, Int.reduceNe], trivial⟩⟩
                simp -dsimp -implicitDefEqProofs (maxSteps := 1000000) only [go_sem, ↓reduceIte, Nat.reduceAdd, Nat.reduceSub, Nat.reduceMul, Nat.reduceLT, Nat.reduceLeDiff, Nat.reduceEqDiff, Nat.reduceBEq, Nat.reduceBNe, Int.reduceToNat, Int.reduceLT, Int.reduceLE, Int.reduceNeg, reduceCtorEq, Int.reduceEq, Int.reduceNe, hs]
                exact renL_cl2 (fin _ (by simp [s2, likeW, p1, p2, p3])) ((clKnsL _).2 trivial)
          · by_cases p2 : z.c.op = 0
            · by_cases p3 : z.l.op = 3
              · by_cases p4 : [z.l.x - z.x, z.l.y - z.y] = [0, 0]
                · have p5 : z.l.x - z.x = 0 ∧ z.l.y - z.y = 0 := by simpa using p4
                  simp -dsimp -implicitDefEqProofs (maxSteps := 1000000) only [go_sem, ↓reduceIte, Nat.reduceAdd, Nat.reduceSub, Nat.reduceMul, Nat.reduceLT, Nat.reduceLeDiff, Nat.reduceEqDiff, Nat.reduceBEq, Nat.reduceBNe, Int.reduceToNat, Int.reduceLT, Int.reduceLE, Int.reduceNeg, reduceCtorEq, Int.reduceEq, Int.reduceNe, e4, e4, c1, Int.toNat_natCast, Int.natCast_nonneg, hg, Nat.zero_add]
                  refine AtCode.drawB 10 [([], []), ([0], []), ([0, 1], []), ([0, 1, 2], []), ([], [9]), ([4], [9]), ([4, 5], [9]), ([4, 5, 6], [9]), ([], []), ([], []), ([0, 1, 2, 3, 8, 9], []), ([0, 1, 2, 3, 4, 5, 6, 7, 8, 9, 10], [])] [false, true] (by kernel_rfl) ?_
                  simp -dsimp -implicitDefEqProofs (maxSteps := 1000000) only [go_sem, ↓reduceIte, Nat.reduceAdd, Nat.reduceSub, Nat.reduceMul, Nat.reduceLT, Nat.reduceLeDiff, Nat.reduceEqDiff, Nat.reduceBEq, Nat.reduceBNe, Int.reduceToNat, Int.reduceLT, Int.reduceLE, Int.reduceNeg, reduceCtorEq, Int.reduceEq, Int.reduceNe, e4, c1, Int.toNat_natCast, Int.natCast_nonneg, hg, Nat.zero_add]
                  refine ⟨by kernel_rfl, ?_⟩
                  refine AtCode.draw 11 [([], []), ([0], []), ([0, 1], []), ([], []), ([], []), ([4], []), ([4, 5], []), ([4, 5, 6], []), ([], []), ([8], []), ([4, 5, 6, 7, 8, 9], []), ([0, 1, 2, 3, 4, 5, 6, 7, 8, 9, 10], [])] (by kernel_rfl) ?_
                  simp -dsimp -implicitDefEqProofs (maxSteps := 1000000) only [go_sem, ↓reduceIte, Nat.reduceAdd, Nat.reduceSub, Nat.reduceMul, Nat.reduceLT, Nat.reduceLeDiff, Nat.reduceEqDiff, Nat.reduceBEq, Nat.reduceBNe, Int.reduceToNat, Int.reduceLT, Int.reduceLE, Int.reduceNeg, reduceCtorEq, Int.reduceEq, Int.reduceNe, e4, c1, Int.toNat_natCast, Int.natCast_nonneg, hg, Nat.zero_add]
                  refine QFn.use _ mi1 (by simp -dsimp -implicitDefEqProofs (maxSteps := 1000000) only [go_sem, ↓reduceIte, Nat.reduceAdd, Nat.reduceSub, Nat.reduceMul, Nat.reduceLT, Nat.reduceLeDiff, Nat.reduceEqDiff, Nat.reduceBEq, Nat.reduceBNe, Int.reduceToNat, Int.reduceLT, Int.reduceLE, Int.reduceNeg, reduceCtorEq, Int.reduceEq, Int.reduceNe]) ?_
                  simp -dsimp -implicitDefEqProofs (maxSteps := 1000000) only [go_sem, ↓reduceIte, Nat.reduceAdd, Nat.reduceSub, Nat.reduceMul, Nat.reduceLT, Nat.reduceLeDiff, Nat.reduceEqDiff, Nat.reduceBEq, Nat.reduceBNe, Int.reduceToNat, Int.reduceLT, Int.reduceLE, Int.reduceNeg, reduceCtorEq, Int.reduceEq, Int.reduceNe, e4, c1, Int.toNat_natCast, Int.natCast_nonneg, hg, Nat.zero_add]
                  refine AtFn.inl 400 [] mixed Try.func44 (by kernel_rfl) rfl (by rw [Try.results44]; rfl) (Nat.le_of_ble_eq_true rfl) ?_; rw [Try.ntmps44]
                  simp -dsimp -implicitDefEqProofs (maxSteps := 1000000) only [go_sem, ↓reduceIte, Nat.reduceAdd, Nat.reduceSub, Nat.reduceMul, Nat.reduceLT, Nat.reduceLeDiff, Nat.reduceEqDiff, Nat.reduceBEq, Nat.reduceBNe, Int.reduceToNat, Int.reduceLT, Int.reduceLE, Int.reduceNeg, reduceCtorEq, Int.reduceEq, Int.reduceNe, p3, hg, gs, List.set_set]
                  refine AtCode.draw 11 [([], []), ([0], []), ([0, 1], []), ([], []), ([], []), ([4], []), ([], []), ([6], []), ([6, 7], []), ([6, 7, 8], []), ([4, 5, 6, 7, 8, 9], []), ([0, 1, 2, 3, 4, 5, 6, 7, 8, 9, 10], [])] (by kernel_rfl) ?_
                  simp -dsimp -implicitDefEqProofs (maxSteps := 1000000) only [go_sem, ↓reduceIte, Nat.reduceAdd, Nat.reduceSub, Nat.reduceMul, Nat.reduceLT, Nat.reduceLeDiff, Nat.reduceEqDiff, Nat.reduceBEq, Nat.reduceBNe, Int.reduceToNat, Int.reduceLT, Int.reduceLE, Int.reduceNeg, reduceCtorEq, Int.reduceEq, Int.reduceNe, c1, Int.toNat_natCast, Int.natCast_nonneg, hg, Nat.zero_add, gs]
                  refine QFn.use _ mi2 (by simp -dsimp -implicitDefEqProofs (maxSteps := 1000000) only [go_sem, ↓reduceIte, Nat.reduceAdd, Nat.reduceSub, Nat.reduceMul, Nat.reduceLT, Nat.reduceLeDiff, Nat.reduceEqDiff, Nat.reduceBEq, Nat.reduceBNe, Int.reduceToNat, Int.reduceLT, Int.reduceLE, Int.reduceNeg, reduceCtorEq, Int.reduceEq, Int.reduceNe]) ?_
                  simp -dsimp -implicitDefEqProofs (maxSteps := 1000000) only [go_sem, ↓reduceIte, Nat.reduceAdd, Nat.reduceSub, Nat.reduceMul, Nat.reduceLT, Nat.reduceLeDiff, Nat.reduceEqDiff, Nat.reduceBEq, Nat.reduceBNe, Int.reduceToNat, Int.reduceLT, Int.reduceLE, Int.reduceNeg, reduceCtorEq, Int.reduceEq, Int.reduceNe, c1, Int.toNat_natCast, Int.natCast_nonneg, hg, Nat.zero_add, gs]
                  refine AtFn.inl 400 [] mixed Try.func44 (by kernel_rfl) rfl (by rw [Try.results44]; rfl) (Nat.le_of_ble_eq_true rfl) ?_; rw [Try.ntmps44]
                  simp -dsimp -implicitDefEqProofs (maxSteps := 1000000) only [go_sem, ↓reduceIte, Nat.reduceAdd, Nat.reduceSub, Nat.reduceMul, Nat.reduceLT, Nat.reduceLeDiff, Nat.reduceEqDiff, Nat.reduceBEq, Nat.reduceBNe, Int.reduceToNat, Int.reduceLT, Int.reduceLE, Int.reduceNeg, reduceCtorEq, Int.reduceEq, Int.reduceNe, p2, p3, p4, hg, gs, List.set_set]
                  refine ⟨⟨k + 1, by omega⟩, by show cur.length - (k + 1) < cur.length - k; omega, Le.tl (Ls := [[]]) [] (by simp -dsimp -implicitDefEqProofs (maxSteps := 1000000) only [go_sem, ↓reduceIte, Nat.reduceAdd, Nat.reduceSub, Nat.reduceMul, Nat.reduceLT, Nat.reduceLeDiff, Nat.reduceEqDiff, Nat.reduceBEq, Nat.reduceBNe, Int.reduceToNat, Int.reduceLT, Int.reduceLE, Int.reduceNeg, reduceCtorEq, Int.reduceEq, Int.reduceNe, e3]) ?_ (by simp) (by simp [sg]) ⟨by simp -dsimp -implicitDefEqProofs (maxSteps := 1000000) only [go_sem, ↓reduceIte, Nat.reduceAdd, Nat.reduceSub, Nat.reduceMul, Nat.reduceLT, Nat.reduceLeDiff, Nat.reduceEqDiff, Nat.reduceBEq, Nat.reduceBNe, Int.reduceToNat, Int.reduceLT, Int.reduceLE, Int.reduceNeg, reduceCtorEq, Int.reduceEq, Int.reduceNe], trivial⟩⟩
                  simp -dsimp -implicitDefEqProofs (maxSteps := 1000000) only [go_sem, ↓reduceIte, Nat.reduceAdd, Nat.reduceSub, Nat.reduceMul, Nat.reduceLT, Nat.reduceLeDiff, Nat.reduceEqDiff, Nat.reduceBEq, Nat.reduceBNe, Int.reduceToNat, Int.reduceLT, Int.reduceLE, Int.reduceNeg, reduceCtorEq, Int.reduceEq, Int.reduceNe, hs]
                  exact renL_cl2 (fin _ (by simp [s2, likeW, p2, p3, p5])) ((clKnsL _).2 trivial)
                · have p5 : ¬ (z.l.x - z.x = 0 ∧ z.l.y - z.y = 0) := by simpa using p4
                  simp -dsimp -implicitDefEqProofs (maxSteps := 1000000) only [go_sem, ↓reduceIte, Nat.reduceAdd, Nat.reduceSub, Nat.reduceMul, Nat.reduceLT, Nat.reduceLeDiff, Nat.reduceEqDiff, Nat.reduceBEq, Nat.reduceBNe, Int.reduceToNat, Int.reduceLT, Int.reduceLE, Int.reduceNeg, reduceCtorEq, Int.reduceEq, Int.reduceNe, e4, e4, c1, Int.toNat_natCast, Int.natCast_nonneg, hg, Nat.zero_add]
                  refine AtCode.drawB 10 [([], []), ([0], []), ([0, 1], []), ([0, 1, 2], []), ([], [9]), ([4], [9]), ([4, 5], [9]), ([4, 5, 6], [9]), ([], []), ([], []), ([0, 1, 2, 3, 8, 9], []), ([0, 1, 2, 3, 4, 5, 6, 7, 8, 9, 10], [])] [false, true] (by kernel_rfl) ?_
                  simp -dsimp -implicitDefEqProofs (maxSteps := 1000000) only [go_sem, ↓reduceIte, Nat.reduceAdd, Nat.reduceSub, Nat.reduceMul, Nat.reduceLT, Nat.reduceLeDiff, Nat.reduceEqDiff, Nat.reduceBEq, Nat.reduceBNe, Int.reduceToNat, Int.reduceLT, Int.reduceLE, Int.reduceNeg, reduceCtorEq, Int.reduceEq, Int.reduceNe, e4, c1, Int.toNat_natCast, Int.natCast_nonneg, hg, Nat.zero_add]
                  refine ⟨by kernel_rfl, ?_⟩
                  refine AtCode.draw 11 [([], []), ([0], []), ([0, 1], []), ([], []), ([], []), ([4], []), ([4, 5], []), ([4, 5, 6], []), ([], []), ([8], []), ([4, 5, 6, 7, 8, 9], []), ([0, 1, 2, 3, 4, 5, 6, 7, 8, 9, 10], [])] (by kernel_rfl) ?_
                  simp -dsimp -implicitDefEqProofs (maxSteps := 1000000) only [go_sem, ↓reduceIte, Nat.reduceAdd, Nat.reduceSub, Nat.reduceMul, Nat.reduceLT, Nat.reduceLeDiff, Nat.reduceEqDiff, Nat.reduceBEq, Nat.reduceBNe, Int.reduceToNat, Int.reduceLT, Int.reduceLE, Int.reduceNeg, reduceCtorEq, Int.reduceEq, Int.reduceNe, e4, c1, Int.toNat_natCast, Int.natCast_nonneg, hg, Nat.zero_add]
                  refine QFn.use _ mi1 (by simp -dsimp -implicitDefEqProofs (maxSteps := 1000000) only [go_sem, ↓reduceIte, Nat.reduceAdd, Nat.reduceSub, Nat.reduceMul, Nat.reduceLT, Nat.reduceLeDiff, Nat.reduceEqDiff, Nat.reduceBEq, Nat.reduceBNe, Int.reduceToNat, Int.reduceLT, Int.reduceLE, Int.reduceNeg, reduceCtorEq, Int.reduceEq, Int.reduceNe]) ?_
                  simp -dsimp -implicitDefEqProofs (maxSteps := 1000000) only [go_sem, ↓reduceIte, Nat.reduceAdd, Nat.reduceSub, Nat.reduceMul, Nat.reduceLT, Nat.reduceLeDiff, Nat.reduceEqDiff, Nat.reduceBEq, Nat.reduceBNe, Int.reduceToNat, Int.reduceLT, Int.reduceLE, Int.reduceNeg, reduceCtorEq, Int.reduceEq, Int.reduceNe, e4, c1, Int.toNat_natCast, Int.natCast_nonneg, hg, Nat.zero_add]
                  refine AtFn.inl 400 [] mixed Try.func44 (by kernel_rfl) rfl (by rw [Try.results44]; rfl) (Nat.le_of_ble_eq_true rfl) ?_; rw [Try.ntmps44]
                  simp -dsimp -implicitDefEqProofs (maxSteps := 1000000) only [go_sem, ↓reduceIte, Nat.reduceAdd, Nat.reduceSub, Nat.reduceMul, Nat.reduceLT, Nat.reduceLeDiff, Nat.reduceEqDiff, Nat.reduceBEq, Nat.reduceBNe, Int.reduceToNat, Int.reduceLT, Int.reduceLE, Int.reduceNeg, reduceCtorEq, Int.reduceEq, Int.reduceNe, p3, hg, gs, List.set_set]
                  refine AtCode.draw 11 [([], []), ([0], []), ([0, 1], []), ([], []), ([], []), ([4], []), ([], []), ([6], []), ([6, 7], []), ([6, 7, 8], []), ([4, 5, 6, 7, 8, 9], []), ([0, 1, 2, 3, 4, 5, 6, 7, 8, 9, 10], [])] (by kernel_rfl) ?_
                  simp -dsimp -implicitDefEqProofs (maxSteps := 1000000) only [go_sem, ↓reduceIte, Nat.reduceAdd, Nat.reduceSub, Nat.reduceMul, Nat.reduceLT, Nat.reduceLeDiff, Nat.reduceEqDiff, Nat.reduceBEq, Nat.reduceBNe, Int.reduceToNat, Int.reduceLT, Int.reduceLE, Int.reduceNeg, reduceCtorEq, Int.reduceEq, Int.reduceNe, c1, Int.toNat_natCast, Int.natCast_nonneg, hg, Nat.zero_add, gs]
                  refine QFn.use _ mi2 (by simp -dsimp -implicitDefEqProofs (maxSteps := 1000000) only [go_sem, ↓reduceIte, Nat.reduceAdd, Nat.reduceSub, Nat.reduceMul, Nat.reduceLT, Nat.reduceLeDiff, Nat.reduceEqDiff, Nat.reduceBEq, Nat.reduceBNe, Int.reduceToNat, Int.reduceLT, Int.reduceLE, Int.reduceNeg, reduceCtorEq, Int.reduceEq, Int.reduceNe]) ?_
                  simp -dsimp -implicitDefEqProofs (maxSteps := 1000000) only [go_sem, ↓reduceIte, Nat.reduceAdd, Nat.reduceSub, Nat.reduceMul, Nat.reduceLT, Nat.reduceLeDiff, Nat.reduceEqDiff, Nat.reduceBEq, Nat.reduceBNe, Int.reduceToNat, Int.reduceLT, Int.reduceLE, Int.reduceNeg, reduceCtorEq, Int.reduceEq, Int.reduceNe, c1, Int.toNat_natCast, Int.natCast_nonneg, hg, Nat.zero_add, gs]
                  refine AtFn.inl 400 [] mixed Try.func44 (by kernel_rfl) rfl (by rw [Try.results44]; rfl) (Nat.le_of_ble_eq_true rfl) ?_; rw [Try.ntmps44]
                  simp -dsimp -implicitDefEqProofs (maxSteps := 1000000) only [go_sem, ↓reduceIte, Nat.reduceAdd, Nat.reduceSub, Nat.reduceMul, Nat.reduceLT, Nat.reduceLeDiff, Nat.reduceEqDiff, Nat.reduceBEq, Nat.reduceBNe, Int.reduceToNat, Int.reduceLT, Int.reduceLE, Int.reduceNeg, reduceCtorEq, Int.reduceEq, Int.reduceNe, p2, p3, p4, hg, gs, List.set_set]
                  refine AtFn.pure0 a2 ?_
                  simp -dsimp -implicitDefEqProofs (maxSteps := 1000000) only [go_sem, ↓reduceIte, Nat.reduceAdd, Nat.reduceSub, Nat.reduceMul, Nat.reduceLT, Nat.reduceLeDiff, Nat.reduceEqDiff, Nat.reduceBEq, Nat.reduceBNe, Int.reduceToNat, Int.reduceLT, Int.reduceLE, Int.reduceNeg, reduceCtorEq, Int.reduceEq, Int.reduceNe, gs, List.set_set]
                  refine ⟨⟨k + 1, by omega⟩, by show cur.length - (k + 1) < cur.length - k; omega, Le.tl (Ls := [[]]) [] (by simp -dsimp -implicitDefEqProofs (maxSteps := 1000000) only [go_sem, ↓reduceIte, Nat.reduceAdd, Nat.reduceSub, Nat.reduceMul, Nat.reduceLT, Nat.reduceLeDiff, Nat.reduceEqDiff, Nat.reduceBEq, Nat.reduceBNe, Int.reduceToNat, Int.reduceLT, Int.reduceLE, Int.reduceNeg, reduceCtorEq, Int.reduceEq, Int.reduceNe, e3]) ?_ (by simp) (by simp [sg]) ⟨by simp -dsimp -implicitDefEqProofs (maxSteps := 1000000) only [go_sem, ↓reduceIte, Nat.reduceAdd, Nat.reduceSub, Nat.reduceMul, Nat.reduceLT, Nat.reduceLeDiff, Nat.reduceEqDiff, Nat.reduceBEq, Nat.reduceBNe, Int.reduceToNat, Int.reduceLT, Int.reduceLE, Int.reduceNeg, reduceCtorEq, Int.reduceEq, Int.reduceNe], trivial⟩⟩
                  simp -dsimp -implicitDefEqProofs (maxSteps := 1000000) only [go_sem, ↓reduceIte, Nat.reduceAdd, Nat.reduceSub, Nat.reduceMul, Nat.reduceLT, Nat.reduceLeDiff, Nat.reduceEqDiff, Nat.reduceBEq, Nat.reduceBNe, Int.reduceToNat, Int.reduceLT, Int.reduceLE, Int.reduceNeg, reduceCtorEq, Int.reduceEq, Int.reduceNe, hs]
                  exact renL_cl2 (fin _ (by simp [s2, likeW, p2, p3, p5])) ((clKnsL _).2 trivial)
              · skip
                simp -dsimp -implicitDefEqProofs (maxSteps := 1000000) only [go_sem, ↓reduceIte, Nat.reduceAdd, Nat.reduceSub, Nat.reduceMul, Nat.reduceLT, Nat.reduceLeDiff, Nat.reduceEqDiff, Nat.reduceBEq, Nat.reduceBNe, Int.reduceToNat, Int.reduceLT, Int.reduceLE, Int.reduceNeg, reduceCtorEq, Int.reduceEq, Int.reduceNe, e4, e4, c1, Int.toNat_natCast, Int.natCast_nonneg, hg, Nat.zero_add]
                refine AtCode.drawB 10 [([], []), ([0], []), ([0, 1], []), ([0, 1, 2], []), ([], [9]), ([4], [9]), ([4, 5], [9]), ([4, 5, 6], [9]), ([], []), ([], []), ([0, 1, 2, 3, 8, 9], []), ([0, 1, 2, 3, 4, 5, 6, 7, 8, 9, 10], [])] [false, true] (by kernel_rfl) ?_
                simp -dsimp -implicitDefEqProofs (maxSteps := 1000000) only [go_sem, ↓reduceIte, Nat.reduceAdd, Nat.reduceSub, Nat.reduceMul, Nat.reduceLT, Nat.reduceLeDiff, Nat.reduceEqDiff, Nat.reduceBEq, Nat.reduceBNe, Int.reduceToNat, Int.reduceLT, Int.reduceLE, Int.reduceNeg, reduceCtorEq, Int.reduceEq, Int.reduceNe, e4, c1, Int.toNat_natCast, Int.natCast_nonneg, hg, Nat.zero_add]
                refine ⟨by kernel_rfl, ?_⟩
                refine AtCode.draw 11 [([], []), ([0], []), ([0, 1], []), ([], []), ([], []), ([4], []), ([4, 5], []), ([4, 5, 6], []), ([], []), ([8], []), ([4, 5, 6, 7, 8, 9], []), ([0, 1, 2, 3, 4, 5, 6, 7, 8, 9, 10], [])] (by kernel_rfl) ?_
                simp -dsimp -implicitDefEqProofs (maxSteps := 1000000) only [go_sem, ↓reduceIte, Nat.reduceAdd, Nat.reduceSub, Nat.reduceMul, Nat.reduceLT, Nat.reduceLeDiff, Nat.reduceEqDiff, Nat.reduceBEq, Nat.reduceBNe, Int.reduceToNat, Int.reduceLT, Int.reduceLE, Int.reduceNeg, reduceCtorEq, Int.reduceEq, Int.reduceNe, e4, c1, Int.toNat_natCast, Int.natCast_nonneg, hg, Nat.zero_add]
                refine QFn.use _ mi1 (by simp -dsimp -implicitDefEqProofs (maxSteps := 1000000) only [go_sem, ↓reduceIte, Nat.reduceAdd, Nat.reduceSub, Nat.reduceMul, Nat.reduceLT, Nat.reduceLeDiff, Nat.reduceEqDiff, Nat.reduceBEq, Nat.reduceBNe, Int.reduceToNat, Int.reduceLT, Int.reduceLE, Int.reduceNeg, reduceCtorEq, Int.reduceEq, Int.reduceNe]) ?_
                simp -dsimp -implicitDefEqProofs (maxSteps := 1000000) only [go_sem, ↓reduceIte, Nat.reduceAdd, Nat.reduceSub, Nat.reduceMul, Nat.reduceLT, Nat.reduceLeDiff, Nat.reduceEqDiff, Nat.reduceBEq, Nat.reduceBNe, Int.reduceToNat, Int.reduceLT, Int.reduceLE, Int.reduceNeg, reduceCtorEq, Int.reduceEq, Int.reduceNe, e4, c1, Int.toNat_natCast, Int.natCast_nonneg, hg, Nat.zero_add]
                refine AtFn.inl 400 [] mixed Try.func44 (by kernel_rfl) rfl (by rw [Try.results44]; rfl) (Nat.le_of_ble_eq_true rfl) ?_; rw [Try.ntmps44]
                simp -dsimp -implicitDefEqProofs (maxSteps := 1000000) only [go_sem, ↓reduceIte, Nat.reduceAdd, Nat.reduceSub, Nat.reduceMul, Nat.reduceLT, Nat.reduceLeDiff, Nat.reduceEqDiff, Nat.reduceBEq, Nat.reduceBNe, Int.reduceToNat, Int.reduceLT, Int.reduceLE, Int.reduceNeg, reduceCtorEq, Int.reduceEq, Int.reduceNe, p1, hg, gs, List.set_set]
                refine AtCode.draw 11 [([], []), ([0], []), ([0, 1], []), ([], []), ([], []), ([4], []), ([], []), ([6], []), ([6, 7], []), ([6, 7, 8], []), ([4, 5, 6, 7, 8, 9], []), ([0, 1, 2, 3, 4, 5, 6, 7, 8, 9, 10], [])] (by kernel_rfl) ?_
                simp -dsimp -implicitDefEqProofs (maxSteps := 1000000) only [go_sem, ↓reduceIte, Nat.reduceAdd, Nat.reduceSub, Nat.reduceMul, Nat.reduceLT, Nat.reduceLeDiff, Nat.reduceEqDiff, Nat.reduceBEq, Nat.reduceBNe, Int.reduceToNat, Int.reduceLT, Int.reduceLE, Int.reduceNeg, reduceCtorEq, Int.reduceEq, Int.reduceNe, c1, Int.toNat_natCast, Int.natCast_nonneg, hg, Nat.zero_add, gs]
                refine QFn.use _ mi2 (by simp -dsimp -implicitDefEqProofs (maxSteps := 1000000) only [go_sem, ↓reduceIte, Nat.reduceAdd, Nat.reduceSub, Nat.reduceMul, Nat.reduceLT, Nat.reduceLeDiff, Nat.reduceEqDiff, Nat.reduceBEq, Nat.reduceBNe, Int.reduceToNat, Int.reduceLT, Int.reduceLE, Int.reduceNeg, reduceCtorEq, Int.reduceEq, Int.reduceNe]) ?_
                simp -dsimp -implicitDefEqProofs (maxSteps := 1000000) only [go_sem, ↓reduceIte, Nat.reduceAdd, Nat.reduceSub, Nat.reduceMul, Nat.reduceLT, Nat.reduceLeDiff, Nat.reduceEqDiff, Nat.reduceBEq, Nat.reduceBNe, Int.reduceToNat, Int.reduceLT, Int.reduceLE, Int.reduceNeg, reduceCtorEq, Int.reduceEq, Int.reduceNe, c1, Int.toNat_natCast, Int.natCast_nonneg, hg, Nat.zero_add, gs]
                refine AtFn.inl 400 [] mixed Try.func44 (by kernel_rfl) rfl (by rw [Try.results44]; rfl) (Nat.le_of_ble_eq_true rfl) ?_; rw [Try.ntmps44]
                simp -dsimp -implicitDefEqProofs (maxSteps := 1000000) only [go_sem, ↓reduceIte, Nat.reduceAdd, Nat.reduceSub, Nat.reduceMul, Nat.reduceLT, Nat.reduceLeDiff, Nat.reduceEqDiff, Nat.reduceBEq, Nat.reduceBNe, Int.reduceToNat, Int.reduceLT, Int.reduceLE, Int.reduceNeg, reduceCtorEq, Int.reduceEq, Int.reduceNe, p1, p2, p3, hg, gs, List.set_set]
                refine AtCode.drawB 8 [([], []), ([], [0]), ([], []), ([2], []), ([], [0]), ([4], [0]), ([0, 2, 3], []), ([0, 2, 3, 6], []), ([0, 2, 3, 6, 7], []), ([0, 1, 2, 3, 4, 5, 6, 7, 8], []), ([0, 1, 2, 3, 4, 5, 6, 7, 8, 9], []), ([0, 1, 2, 3, 4, 5, 6, 7, 8, 9, 10], [])] [false, true, true, true] (by kernel_rfl) ?_
                simp -dsimp -implicitDefEqProofs (maxSteps := 1000000) only [go_sem, ↓reduceIte, Nat.reduceAdd, Nat.reduceSub, Nat.reduceMul, Nat.reduceLT, Nat.reduceLeDiff, Nat.reduceEqDiff, Nat.reduceBEq, Nat.reduceBNe, Int.reduceToNat, Int.reduceLT, Int.reduceLE, Int.reduceNeg, reduceCtorEq, Int.reduceEq, Int.reduceNe, p1, p2, p3, hg, gs, List.set_set]
                refine ⟨by kernel_rfl, ?_⟩
                refine ⟨⟨k + 1, by omega⟩, by show cur.length - (k + 1) < cur.length - k; omega, Le.tl (Ls := [[]]) [] (by simp -dsimp -implicitDefEqProofs (maxSteps := 1000000) only [go_sem, ↓reduceIte, Nat.reduceAdd, Nat.reduceSub, Nat.reduceMul, Nat.reduceLT, Nat.reduceLeDiff, Nat.reduceEqDiff, Nat.reduceBEq, Nat.reduceBNe, Int.reduceToNat, Int.reduceLT, Int.reduceLE, Int.reduceNeg, reduceCtorEq, Int.reduceEq, Int.reduceNe, e3]) ?_ (by simp) (by simp [sg]) ⟨by simp -dsimp -implicitDefEqProofs (maxSteps := 1000000) only [go_sem, ↓reduceIte, Nat.reduceAdd, Nat.reduceSub, Nat.reduceMul, Nat.reduceLT, Nat.reduceLeDiff, Nat.reduceEqDiff, Nat.reduceBEq, Nat.reduceBNe, Int.reduceToNat, Int.reduceLT, Int.reduceLE, Int.reduceNeg, reduceCtorEq, Int.reduceEq, Int.reduceNe], trivial⟩⟩
                simp -dsimp -implicitDefEqProofs (maxSteps := 1000000) only [go_sem, ↓reduceIte, Nat.reduceAdd, Nat.reduceSub, Nat.reduceMul, Nat.reduceLT, Nat.reduceLeDiff, Nat.reduceEqDiff, Nat.reduceBEq, Nat.reduceBNe, Int.reduceToNat, Int.reduceLT, Int.reduceLE, Int.reduceNeg, reduceCtorEq, Int.reduceEq, Int.reduceNe, hs]
                exact renL_cl2 (fin _ (by simp [s2, likeW, p1, p2, p3])) ((clKnsL _).2 trivial)
            · skip
              simp -dsimp -implicitDefEqProofs (maxSteps := 1000000) only [go_sem, ↓reduceIte, Nat.reduceAdd, Nat.reduceSub, Nat.reduceMul, Nat.reduceLT, Nat.reduceLeDiff, Nat.reduceEqDiff, Nat.reduceBEq, Nat.reduceBNe, Int.reduceToNat, Int.reduceLT, Int.reduceLE, Int.reduceNeg, reduceCtorEq, Int.reduceEq, Int.reduceNe, e4, e4, c1, Int.toNat_natCast, Int.natCast_nonneg, hg, Nat.zero_add]
              refine AtCode.drawB 10 [([], []), ([0], []), ([0, 1], []), ([0, 1, 2], []), ([], [9]), ([4], [9]), ([4, 5], [9]), ([4, 5, 6], [9]), ([], []), ([], []), ([0, 1, 2, 3, 8, 9], []), ([0, 1, 2, 3, 4, 5, 6, 7, 8, 9, 10], [])] [false, true] (by kernel_rfl) ?_
              simp -dsimp -implicitDefEqProofs (maxSteps := 1000000) only [go_sem, ↓reduceIte, Nat.reduceAdd, Nat.reduceSub, Nat.reduceMul, Nat.reduceLT, Nat.reduceLeDiff, Nat.reduceEqDiff, Nat.reduceBEq, Nat.reduceBNe, Int.reduceToNat, Int.reduceLT, Int.reduceLE, Int.reduceNeg, reduceCtorEq, Int.reduceEq, Int.reduceNe, e4, c1, Int.toNat_natCast, Int.natCast_nonneg, hg, Nat.zero_add]
              refine ⟨by kernel_rfl, ?_⟩
              refine AtCode.draw 11 [([], []), ([0], []), ([0, 1], []), ([], []), ([], []), ([4], []), ([4, 5], []), ([4, 5, 6], []), ([], []), ([8], []), ([4, 5, 6, 7, 8, 9], []), ([0, 1, 2, 3, 4, 5, 6, 7, 8, 9, 10], [])] (by kernel_rfl) ?_
              simp -dsimp -implicitDefEqProofs (maxSteps := 1000000) only [go_sem, ↓reduceIte, Nat.reduceAdd, Nat.reduceSub, Nat.reduceMul, Nat.reduceLT, Nat.reduceLeDiff, Nat.reduceEqDiff, Nat.reduceBEq, Nat.reduceBNe, Int.reduceToNat, Int.reduceLT, Int.reduceLE, Int.reduceNeg, reduceCtorEq, Int.reduceEq, Int.reduceNe, e4, c1, Int.toNat_natCast, Int.natCast_nonneg, hg, Nat.zero_add]
              refine QFn.use _ mi1 (by simp -dsimp -implicitDefEqProofs (maxSteps := 1000000) only [go_sem, ↓reduceIte, Nat.reduceAdd, Nat.reduceSub, Nat.reduceMul, Nat.reduceLT, Nat.reduceLeDiff, Nat.reduceEqDiff, Nat.reduceBEq, Nat.reduceBNe, Int.reduceToNat, Int.reduceLT, Int.reduceLE, Int.reduceNeg, reduceCtorEq, Int.reduceEq, Int.reduceNe]) ?_
              simp -dsimp -implicitDefEqProofs (maxSteps := 1000000) only [go_sem, ↓reduceIte, Nat.reduceAdd, Nat.reduceSub, Nat.reduceMul, Nat.reduceLT, Nat.reduceLeDiff, Nat.reduceEqDiff, Nat.reduceBEq, Nat.reduceBNe, Int.reduceToNat, Int.reduceLT, Int.reduceLE, Int.reduceNeg, reduceCtorEq, Int.reduceEq, Int.reduceNe, e4, c1, Int.toNat_natCast, Int.natCast_nonneg, hg, Nat.zero_add]
              refine AtFn.inl 400 [] mixed Try.func44 (by kernel_rfl) rfl (by rw [Try.results44]; rfl) (Nat.le_of_ble_eq_true rfl) ?_; rw [Try.ntmps44]
              simp -dsimp -implicitDefEqProofs (maxSteps := 1000000) only [go_sem, ↓reduceIte, Nat.reduceAdd, Nat.reduceSub, Nat.reduceMul, Nat.reduceLT, Nat.reduceLeDiff, Nat.reduceEqDiff, Nat.reduceBEq, Nat.reduceBNe, Int.reduceToNat, Int.reduceLT, Int.reduceLE, Int.reduceNeg, reduceCtorEq, Int.reduceEq, Int.reduceNe, p1, hg]
              refine AtCode.draw 11 [([], []), ([0], []), ([0, 1], []), ([], []), ([], []), ([4], []), ([], []), ([6], []), ([6, 7], []), ([6, 7, 8], []), ([4, 5, 6, 7, 8, 9], []), ([0, 1, 2, 3, 4, 5, 6, 7, 8, 9, 10], [])] (by kernel_rfl) ?_
              simp -dsimp -implicitDefEqProofs (maxSteps := 1000000) only [go_sem, ↓reduceIte, Nat.reduceAdd, Nat.reduceSub, Nat.reduceMul, Nat.reduceLT, Nat.reduceLeDiff, Nat.reduceEqDiff, Nat.reduceBEq, Nat.reduceBNe, Int.reduceToNat, Int.reduceLT, Int.reduceLE, Int.reduceNeg, reduceCtorEq, Int.reduceEq, Int.reduceNe, c1, Int.toNat_natCast, Int.natCast_nonneg, hg, Nat.zero_add, gs]
              refine QFn.use _ mi2 (by simp -dsimp -implicitDefEqProofs (maxSteps := 1000000) only [go_sem, ↓reduceIte, Nat.reduceAdd, Nat.reduceSub, Nat.reduceMul, Nat.reduceLT, Nat.reduceLeDiff, Nat.reduceEqDiff, Nat.reduceBEq, Nat.reduceBNe, Int.reduceToNat, Int.reduceLT, Int.reduceLE, Int.reduceNeg, reduceCtorEq, Int.reduceEq, Int.reduceNe]) ?_
              simp -dsimp -implicitDefEqProofs (maxSteps := 1000000) only [go_sem, ↓reduceIte, Nat.reduceAdd, Nat.reduceSub, Nat.reduceMul, Nat.reduceLT, Nat.reduceLeDiff, Nat.reduceEqDiff, Nat.reduceBEq, Nat.reduceBNe, Int.reduceToNat, Int.reduceLT, Int.reduceLE, Int.reduceNeg, reduceCtorEq, Int.reduceEq, Int.reduceNe, c1, Int.toNat_natCast, Int.natCast_nonneg, hg, Nat.zero_add, gs]
              refine AtFn.inl 400 [] mixed Try.func44 (by kernel_rfl) rfl (by rw [Try.results44]; rfl) (Nat.le_of_ble_eq_true rfl) ?_; rw [Try.ntmps44]
              simp -dsimp -implicitDefEqProofs (maxSteps := 1000000) only [go_sem, ↓reduceIte, Nat.reduceAdd, Nat.reduceSub, Nat.reduceMul, Nat.reduceLT, Nat.reduceLeDiff, Nat.reduceEqDiff, Nat.reduceBEq, Nat.reduceBNe, Int.reduceToNat, Int.reduceLT, Int.reduceLE, Int.reduceNeg, reduceCtorEq, Int.reduceEq, Int.reduceNe, p2, hg]
              refine ⟨⟨k + 1, by omega⟩, by show cur.length - (k + 1) < cur.length - k; omega, Le.tl (Ls := [[]]) [] (by simp -dsimp -implicitDefEqProofs (maxSteps := 1000000) only [go_sem, ↓reduceIte, Nat.reduceAdd, Nat.reduceSub, Nat.reduceMul, Nat.reduceLT, Nat.reduceLeDiff, Nat.reduceEqDiff, Nat.reduceBEq, Nat.reduceBNe, Int.reduceToNat, Int.reduceLT, Int.reduceLE, Int.reduceNeg, reduceCtorEq, Int.reduceEq, Int.reduceNe, e3]) ?_ (by simp) (by simp [sg]) ⟨by simp -dsimp -implicitDefEqProofs (maxSteps := 1000000) only [go_sem, ↓reduceIte, Nat.reduceAdd, Nat.reduceSub, Nat.reduceMul, Nat.reduceLT, Nat.reduceLeDiff, Nat.reduceEqDiff, Nat.reduceBEq, Nat.reduceBNe, Int.reduceToNat, Int.reduceLT, Int.reduceLE, Int.reduceNeg, reduceCtorEq, Int.reduceEq, Int.reduceNe], trivial⟩⟩
              simp -dsimp -implicitDefEqProofs (maxSteps := 1000000) only [go_sem, ↓reduceIte, Nat.reduceAdd, Nat.reduceSub, Nat.reduceMul, Nat.reduceLT, Nat.reduceLeDiff, Nat.reduceEqDiff, Nat.reduceBEq, Nat.reduceBNe, Int.reduceToNat, Int.reduceLT, Int.reduceLE, Int.reduceNeg, reduceCtorEq, Int.reduceEq, Int.reduceNe, hs]
              exact renL_cl2 (g2 p1 p2) ((clKnsL _).2 trivial)
        | false =>
          have k0 : ¬ (k : Int) = 0 := fun q => hsk ⟨rfl, .inl (by omega)⟩
          have k1 : ¬ (k : Int) = ((cur.length - 1 : Nat) : Int) := fun q => hsk ⟨rfl, .inr (by omega)⟩
          by_cases p1 : z.l.op = 0
          · by_cases p2 : z.c.op = 0
            · skip
              simp -dsimp -implicitDefEqProofs (maxSteps := 1000000) only [go_sem, ↓reduceIte, Nat.reduceAdd, Nat.reduceSub, Nat.reduceMul, Nat.reduceLT, Nat.reduceLeDiff, Nat.reduceEqDiff, Nat.reduceBEq, Nat.reduceBNe, Int.reduceToNat, Int.reduceLT, Int.reduceLE, Int.reduceNeg, reduceCtorEq, Int.reduceEq, Int.reduceNe, k0, k1, e4, c1, Int.toNat_natCast, Int.natCast_nonneg, hg, Nat.zero_add]
              refine AtCode.drawB 10 [([], []), ([0], []), ([0, 1], []), ([0, 1, 2], []), ([], [9]), ([4], [9]), ([4, 5], [9]), ([4, 5, 6], [9]), ([], []), ([], []), ([0, 1, 2, 3, 8, 9], []), ([0, 1, 2, 3, 4, 5, 6, 7, 8, 9, 10], [])] [false, true] (by kernel_rfl) ?_
              simp -dsimp -implicitDefEqProofs (maxSteps := 1000000) only [go_sem, ↓reduceIte, Nat.reduceAdd, Nat.reduceSub, Nat.reduceMul, Nat.reduceLT, Nat.reduceLeDiff, Nat.reduceEqDiff, Nat.reduceBEq, Nat.reduceBNe, Int.reduceToNat, Int.reduceLT, Int.reduceLE, Int.reduceNeg, reduceCtorEq, Int.reduceEq, Int.reduceNe, e4, c1, Int.toNat_natCast, Int.natCast_nonneg, hg, Nat.zero_add]
              refine ⟨by kernel_rfl, ?_⟩
              refine AtCode.draw 11 [([], []), ([0], []), ([0, 1], []), ([], []), ([], []), ([4], []), ([4, 5], []), ([4, 5, 6], []), ([], []), ([8], []), ([4, 5, 6, 7, 8, 9], []), ([0, 1, 2, 3, 4, 5, 6, 7, 8, 9, 10], [])] (by kernel_rfl) ?_
              simp -dsimp -implicitDefEqProofs (maxSteps := 1000000) only [go_sem, ↓reduceIte, Nat.reduceAdd, Nat.reduceSub, Nat.reduceMul, Nat.reduceLT, Nat.reduceLeDiff, Nat.reduceEqDiff, Nat.reduceBEq, Nat.reduceBNe, Int.reduceToNat, Int.reduceLT, Int.reduceLE, Int.reduceNeg, reduceCtorEq, Int.reduceEq, Int.reduceNe, e4, c1, Int.toNat_natCast, Int.natCast_nonneg, hg, Nat.zero_add]
              refine QFn.use _ mi1 (by simp -dsimp -implicitDefEqProofs (maxSteps := 1000000) only [go_sem, ↓reduceIte, Nat.reduceAdd, Nat.reduceSub, Nat.reduceMul, Nat.reduceLT, Nat.reduceLeDiff, Nat.reduceEqDiff, Nat.reduceBEq, Nat.reduceBNe, Int.reduceToNat, Int.reduceLT, Int.reduceLE, Int.reduceNeg, reduceCtorEq, Int.reduceEq, Int.reduceNe]) ?_
              simp -dsimp -implicitDefEqProofs (maxSteps := 1000000) only [go_sem, ↓reduceIte, Nat.reduceAdd, Nat.reduceSub, Nat.reduceMul, Nat.reduceLT, Nat.reduceLeDiff, Nat.reduceEqDiff, Nat.reduceBEq, Nat.reduceBNe, Int.reduceToNat, Int.reduceLT, Int.reduceLE, Int.reduceNeg, reduceCtorEq, Int.reduceEq, Int.reduceNe, e4, c1, Int.toNat_natCast, Int.natCast_nonneg, hg, Nat.zero_add]
              refine AtFn.inl 400 [] mixed Try.func44 (by kernel_rfl) rfl (by rw [Try.results44]; rfl) (Nat.le_of_ble_eq_true rfl) ?_; rw [Try.ntmps44]
              simp -dsimp -implicitDefEqProofs (maxSteps := 1000000) only [go_sem, ↓reduceIte, Nat.reduceAdd, Nat.reduceSub, Nat.reduceMul, Nat.reduceLT, Nat.reduceLeDiff, Nat.reduceEqDiff, Nat.reduceBEq, Nat.reduceBNe, Int.reduceToNat, Int.reduceLT, Int.reduceLE, Int.reduceNeg, reduceCtorEq, Int.reduceEq, Int.reduceNe, p1, p2, hg]
              refine AtCode.draw 11 [([], []), ([0], []), ([0, 1], []), ([], []), ([], []), ([4], []), ([], []), ([6], []), ([6, 7], []), ([6, 7, 8], []), ([4, 5, 6, 7, 8, 9], []), ([0, 1, 2, 3, 4, 5, 6, 7, 8, 9, 10], [])] (by kernel_rfl) ?_
              simp -dsimp -implicitDefEqProofs (maxSteps := 1000000) only [go_sem, ↓reduceIte, Nat.reduceAdd, Nat.reduceSub, Nat.reduceMul, Nat.reduceLT, Nat.reduceLeDiff, Nat.reduceEqDiff, Nat.reduceBEq, Nat.reduceBNe, Int.reduceToNat, Int.reduceLT, Int.reduceLE, Int.reduceNeg, reduceCtorEq, Int.reduceEq, Int.reduceNe, c1, Int.toNat_natCast, Int.natCast_nonneg, hg, Nat.zero_add, gs]
              refine QFn.use _ mi2 (by simp -dsimp -implicitDefEqProofs (maxSteps := 1000000) only [go_sem, ↓reduceIte, Nat.reduceAdd, Nat.reduceSub, Nat.reduceMul, Nat.reduceLT, Nat.reduceLeDiff, Nat.reduceEqDiff, Nat.reduceBEq, Nat.reduceBNe, Int.reduceToNat, Int.reduceLT, Int.reduceLE, Int.reduceNeg, reduceCtorEq, Int.reduceEq, Int.reduceNe]) ?_
              simp -dsimp -implicitDefEqProofs (maxSteps := 1000000) only [go_sem, ↓reduceIte, Nat.reduceAdd, Nat.reduceSub, Nat.reduceMul, Nat.reduceLT, Nat.reduceLeDiff, Nat.reduceEqDiff, Nat.reduceBEq, Nat.reduceBNe, Int.reduceToNat, Int.reduceLT, Int.reduceLE, Int.reduceNeg, reduceCtorEq, Int.reduceEq, Int.reduceNe, c1, Int.toNat_natCast, Int.natCast_nonneg, hg, Nat.zero_add, gs]
              refine AtFn.inl 400 [] mixed Try.func44 (by kernel_rfl) rfl (by rw [Try.results44]; rfl) (Nat.le_of_ble_eq_true rfl) ?_; rw [Try.ntmps44]
              simp -dsimp -implicitDefEqProofs (maxSteps := 1000000) only [go_sem, ↓reduceIte, Nat.reduceAdd, Nat.reduceSub, Nat.reduceMul, Nat.reduceLT, Nat.reduceLeDiff, Nat.reduceEqDiff, Nat.reduceBEq, Nat.reduceBNe, Int.reduceToNat, Int.reduceLT, Int.reduceLE, Int.reduceNeg, reduceCtorEq, Int.reduceEq, Int.reduceNe, p1, p2, hg]
              refine ⟨⟨k + 1, by omega⟩, by show cur.length - (k + 1) < cur.length - k; omega, Le.tl (Ls := [[]]) [] (by simp -dsimp -implicitDefEqProofs (maxSteps := 1000000) only [go_sem, ↓reduceIte, Nat.reduceAdd, Nat.reduceSub, Nat.reduceMul, Nat.reduceLT, Nat.reduceLeDiff, Nat.reduceEqDiff, Nat.reduceBEq, Nat.reduceBNe, Int.reduceToNat, Int.reduceLT, Int.reduceLE, Int.reduceNeg, reduceCtorEq, Int.reduceEq, Int.reduceNe, e3]) ?_ (by simp) (by simp [sg]) ⟨by simp -dsimp -implicitDefEqProofs (maxSteps := 1000000) only [go_sem, ↓reduceIte, Nat.reduceAdd, Nat.reduceSub, Nat.reduceMul, Nat.reduceLT, Nat.reduceLeDiff, Nat.reduceEqDiff, Nat.reduceBEq, Nat.reduceBNe, Int.reduceToNat, Int.reduceLT, Int.reduceLE, Int.reduceNeg, reduceCtorEq, Int.reduceEq, Int.reduceNe], trivial⟩⟩
              simp -dsimp -implicitDefEqProofs (maxSteps := 1000000) only [go_sem, ↓reduceIte, Nat.reduceAdd, Nat.reduceSub, Nat.reduceMul, Nat.reduceLT, Nat.reduceLeDiff, Nat.reduceEqDiff, Nat.reduceBEq, Nat.reduceBNe, Int.reduceToNat, Int.reduceLT, Int.reduceLE, Int.reduceNeg, reduceCtorEq, Int.reduceEq, Int.reduceNe, hs]
              exact renL_cl2 (g1 p1 p2) ((clKnsL _).2 trivial)
            · by_cases p3 : z.c.op = 3
              · by_cases p4 : [z.x - z.c.x, z.y - z.c.y] = [0, 0]
                · have p5 : z.x - z.c.x = 0 ∧ z.y - z.c.y = 0 := by simpa using p4
                  simp -dsimp -implicitDefEqProofs (maxSteps := 1000000) only [go_sem, ↓reduceIte, Nat.reduceAdd, Nat.reduceSub, Nat.reduceMul, Nat.reduceLT, Nat.reduceLeDiff, Nat.reduceEqDiff, Nat.reduceBEq, Nat.reduceBNe, Int.reduceToNat, Int.reduceLT, Int.reduceLE, Int.reduceNeg, reduceCtorEq, Int.reduceEq, Int.reduceNe, k0, k1, e4, c1, Int.toNat_natCast, Int.natCast_nonneg, hg, Nat.zero_add]
                  refine AtCode.drawB 10 [([], []), ([0], []), ([0, 1], []), ([0, 1, 2], []), ([], [9]), ([4], [9]), ([4, 5], [9]), ([4, 5, 6], [9]), ([], []), ([], []), ([0, 1, 2, 3, 8, 9], []), ([0, 1, 2, 3, 4, 5, 6, 7, 8, 9, 10], [])] [false, true] (by kernel_rfl) ?_
                  simp -dsimp -implicitDefEqProofs (maxSteps := 1000000) only [go_sem, ↓reduceIte, Nat.reduceAdd, Nat.reduceSub, Nat.reduceMul, Nat.reduceLT, Nat.reduceLeDiff, Nat.reduceEqDiff, Nat.reduceBEq, Nat.reduceBNe, Int.reduceToNat, Int.reduceLT, Int.reduceLE, Int.reduceNeg, reduceCtorEq, Int.reduceEq, Int.reduceNe, e4, c1, Int.toNat_natCast, Int.natCast_nonneg, hg, Nat.zero_add]
                  refine ⟨by kernel_rfl, ?_⟩
                  refine AtCode.draw 11 [([], []), ([0], []), ([0, 1], []), ([], []), ([], []), ([4], []), ([4, 5], []), ([4, 5, 6], []), ([], []), ([8], []), ([4, 5, 6, 7, 8, 9], []), ([0, 1, 2, 3, 4, 5, 6, 7, 8, 9, 10], [])] (by kernel_rfl) ?_
                  simp -dsimp -implicitDefEqProofs (maxSteps := 1000000) only [go_sem, ↓reduceIte, Nat.reduceAdd, Nat.reduceSub, Nat.reduceMul, Nat.reduceLT, Nat.reduceLeDiff, Nat.reduceEqDiff, Nat.reduceBEq, Nat.reduceBNe, Int.reduceToNat, Int.reduceLT, Int.reduceLE, Int.reduceNeg, reduceCtorEq, Int.reduceEq, Int.reduceNe, e4, c1, Int.toNat_natCast, Int.natCast_nonneg, hg, Nat.zero_add]
                  refine QFn.use _ mi1 (by simp -dsimp -implicitDefEqProofs (maxSteps := 1000000) only [go_sem, ↓reduceIte, Nat.reduceAdd, Nat.reduceSub, Nat.reduceMul, Nat.reduceLT, Nat.reduceLeDiff, Nat.reduceEqDiff, Nat.reduceBEq, Nat.reduceBNe, Int.reduceToNat, Int.reduceLT, Int.reduceLE, Int.reduceNeg, reduceCtorEq, Int.reduceEq, Int.reduceNe]) ?_
                  simp -dsimp -implicitDefEqProofs (maxSteps := 1000000) only [go_sem, ↓reduceIte, Nat.reduceAdd, Nat.reduceSub, Nat.reduceMul, Nat.reduceLT, Nat.reduceLeDiff, Nat.reduceEqDiff, Nat.reduceBEq, Nat.reduceBNe, Int.reduceToNat, Int.reduceLT, Int.reduceLE, Int.reduceNeg, reduceCtorEq, Int.reduceEq, Int.reduceNe, e4, c1, Int.toNat_natCast, Int.natCast_nonneg, hg, Nat.zero_add]
                  refine AtFn.inl 400 [] mixed Try.func44 (by kernel_rfl) rfl (by rw [Try.results44]; rfl) (Nat.le_of_ble_eq_true rfl) ?_; rw [Try.ntmps44]
                  simp -dsimp -implicitDefEqProofs (maxSteps := 1000000) only [go_sem, ↓reduceIte, Nat.reduceAdd, Nat.reduceSub, Nat.reduceMul, Nat.reduceLT, Nat.reduceLeDiff, Nat.reduceEqDiff, Nat.reduceBEq, Nat.reduceBNe, Int.reduceToNat, Int.reduceLT, Int.reduceLE, Int.reduceNeg, reduceCtorEq, Int.reduceEq, Int.reduceNe, p1, p3, p4, hg, gs, List.set_set]
                  refine AtCode.draw 11 [([], []), ([0], []), ([0, 1], []), ([], []), ([], []), ([4], []), ([], []), ([6], []), ([6, 7], []), ([6, 7, 8], []), ([4, 5, 6, 7, 8, 9], []), ([0, 1, 2, 3, 4, 5, 6, 7, 8, 9, 10], [])] (by kernel_rfl) ?_
                  simp -dsimp -implicitDefEqProofs (maxSteps := 1000000) only [go_sem, ↓reduceIte, Nat.reduceAdd, Nat.reduceSub, Nat.reduceMul, Nat.reduceLT, Nat.reduceLeDiff, Nat.reduceEqDiff, Nat.reduceBEq, Nat.reduceBNe, Int.reduceToNat, Int.reduceLT, Int.reduceLE, Int.reduceNeg, reduceCtorEq, Int.reduceEq, Int.reduceNe, c1, Int.toNat_natCast, Int.natCast_nonneg, hg, Nat.zero_add, gs]
                  refine QFn.use _ mi2 (by simp -dsimp -implicitDefEqProofs (maxSteps := 1000000) only [go_sem, ↓reduceIte, Nat.reduceAdd, Nat.reduceSub, Nat.reduceMul, Nat.reduceLT, Nat.reduceLeDiff, Nat.reduceEqDiff, Nat.reduceBEq, Nat.reduceBNe, Int.reduceToNat, Int.reduceLT, Int.reduceLE, Int.reduceNeg, reduceCtorEq, Int.reduceEq, Int.reduceNe]) ?_
                  simp -dsimp -implicitDefEqProofs (maxSteps := 1000000) only [go_sem, ↓reduceIte, Nat.reduceAdd, Nat.reduceSub, Nat.reduceMul, Nat.reduceLT, Nat.reduceLeDiff, Nat.reduceEqDiff, Nat.reduceBEq, Nat.reduceBNe, Int.reduceToNat, Int.reduceLT, Int.reduceLE, Int.reduceNeg, reduceCtorEq, Int.reduceEq, Int.reduceNe, c1, Int.toNat_natCast, Int.natCast_nonneg, hg, Nat.zero_add, gs]
                  refine AtFn.inl 400 [] mixed Try.func44 (by kernel_rfl) rfl (by rw [Try.results44]; rfl) (Nat.le_of_ble_eq_true rfl) ?_; rw [Try.ntmps44]
                  simp -dsimp -implicitDefEqProofs (maxSteps := 1000000) only [go_sem, ↓reduceIte, Nat.reduceAdd, Nat.reduceSub, Nat.reduceMul, Nat.reduceLT, Nat.reduceLeDiff, Nat.reduceEqDiff, Nat.reduceBEq, Nat.reduceBNe, Int.reduceToNat, Int.reduceLT, Int.reduceLE, Int.reduceNeg, reduceCtorEq, Int.reduceEq, Int.reduceNe, gs, List.set_set]
                  refine ⟨⟨k + 1, by omega⟩, by show cur.length - (k + 1) < cur.length - k; omega, Le.tl (Ls := [[]]) [] (by simp -dsimp -implicitDefEqProofs (maxSteps := 1000000) only [go_sem, ↓reduceIte, Nat.reduceAdd, Nat.reduceSub, Nat.reduceMul, Nat.reduceLT, Nat.reduceLeDiff, Nat.reduceEqDiff, Nat.reduceBEq, Nat.reduceBNe, Int.reduceToNat, Int.reduceLT, Int.reduceLE, Int.reduceNeg, reduceCtorEq, Int.reduceEq, Int.reduceNe, e3]) ?_ (by simp) (by simp [sg]) ⟨by simp -dsimp -implicitDefEqProofs (maxSteps := 1000000) only [go_sem, ↓reduceIte, Nat.reduceAdd, Nat.reduceSub, Nat.reduceMul, Nat.reduceLT, Nat.reduceLeDiff, Nat.reduceEqDiff, Nat.reduceBEq, Nat.reduceBNe, Int.reduceToNat, Int.reduceLT, Int.reduceLE, Int.reduceNeg, reduceCtorEq, Int.reduceEq, Int.reduceNe], trivial⟩⟩
                  simp -dsimp -implicitDefEqProofs (maxSteps := 1000000) only [go_sem, ↓reduceIte, Nat.reduceAdd, Nat.reduceSub, Nat.reduceMul, Nat.reduceLT, Nat.reduceLeDiff, Nat.reduceEqDiff, Nat.reduceBEq, Nat.reduceBNe, Int.reduceToNat, Int.reduceLT, Int.reduceLE, Int.reduceNeg, reduceCtorEq, Int.reduceEq, Int.reduceNe, hs]
                  exact renL_cl2 (fin _ (by simp [s2, likeW, p1, p3, p5])) ((clKnsL _).2 trivial)
                · have p5 : ¬ (z.x - z.c.x = 0 ∧ z.y - z.c.y = 0) := by simpa using p4
                  simp -dsimp -implicitDefEqProofs (maxSteps := 1000000) only [go_sem, ↓reduceIte, Nat.reduceAdd, Nat.reduceSub, Nat.reduceMul, Nat.reduceLT, Nat.reduceLeDiff, Nat.reduceEqDiff, Nat.reduceBEq, Nat.reduceBNe, Int.reduceToNat, Int.reduceLT, Int.reduceLE, Int.reduceNeg, reduceCtorEq, Int.reduceEq, Int.reduceNe, k0, k1, e4, c1, Int.toNat_natCast, Int.natCast_nonneg, hg, Nat.zero_add]
                  refine AtCode.drawB 10 [([], []), ([0], []), ([0, 1], []), ([0, 1, 2], []), ([], [9]), ([4], [9]), ([4, 5], [9]), ([4, 5, 6], [9]), ([], []), ([], []), ([0, 1, 2, 3, 8, 9], []), ([0, 1, 2, 3, 4, 5, 6, 7, 8, 9, 10], [])] [false, true] (by kernel_rfl) ?_
                  simp -dsimp -implicitDefEqProofs (maxSteps := 1000000) only [go_sem, ↓reduceIte, Nat.reduceAdd, Nat.reduceSub, Nat.reduceMul, Nat.reduceLT, Nat.reduceLeDiff, Nat.reduceEqDiff, Nat.reduceBEq, Nat.reduceBNe, Int.reduceToNat, Int.reduceLT, Int.reduceLE, Int.reduceNeg, reduceCtorEq, Int.reduceEq, Int.reduceNe, e4, c1, Int.toNat_natCast, Int.natCast_nonneg, hg, Nat.zero_add]
                  refine ⟨by kernel_rfl, ?_⟩
                  refine AtCode.draw 11 [([], []), ([0], []), ([0, 1], []), ([], []), ([], []), ([4], []), ([4, 5], []), ([4, 5, 6], []), ([], []), ([8], []), ([4, 5, 6, 7, 8, 9], []), ([0, 1, 2, 3, 4, 5, 6, 7, 8, 9, 10], [])] (by kernel_rfl) ?_
                  simp -dsimp -implicitDefEqProofs (maxSteps := 1000000) only [go_sem, ↓reduceIte, Nat.reduceAdd, Nat.reduceSub, Nat.reduceMul, Nat.reduceLT, Nat.reduceLeDiff, Nat.reduceEqDiff, Nat.reduceBEq, Nat.reduceBNe, Int.reduceToNat, Int.reduceLT, Int.reduceLE, Int.reduceNeg, reduceCtorEq, Int.reduceEq, Int.reduceNe, e4, c1, Int.toNat_natCast, Int.natCast_nonneg, hg, Nat.zero_add]
                  refine QFn.use _ mi1 (by simp -dsimp -implicitDefEqProofs (maxSteps := 1000000) only [go_sem, ↓reduceIte, Nat.reduceAdd, Nat.reduceSub, Nat.reduceMul, Nat.reduceLT, Nat.reduceLeDiff, Nat.reduceEqDiff, Nat.reduceBEq, Nat.reduceBNe, Int.reduceToNat, Int.reduceLT, Int.reduceLE, Int.reduceNeg, reduceCtorEq, Int.reduceEq, Int.reduceNe]) ?_
                  simp -dsimp -implicitDefEqProofs (maxSteps := 1000000) only [go_sem, ↓reduceIte, Nat.reduceAdd, Nat.reduceSub, Nat.reduceMul, Nat.reduceLT, Nat.reduceLeDiff, Nat.reduceEqDiff, Nat.reduceBEq, Nat.reduceBNe, Int.reduceToNat, Int.reduceLT, Int.reduceLE, Int.reduceNeg, reduceCtorEq, Int.reduceEq, Int.reduceNe, e4, c1, Int.toNat_natCast, Int.natCast_nonneg, hg, Nat.zero_add]
                  refine AtFn.inl 400 [] mixed Try.func44 (by kernel_rfl) rfl (by rw [Try.results44]; rfl) (Nat.le_of_ble_eq_true rfl) ?_; rw [Try.ntmps44]
                  simp -dsimp -implicitDefEqProofs (maxSteps := 1000000) only [go_sem, ↓reduceIte, Nat.reduceAdd, Nat.reduceSub, Nat.reduceMul, Nat.reduceLT, Nat.reduceLeDiff, Nat.reduceEqDiff, Nat.reduceBEq, Nat.reduceBNe, Int.reduceToNat, Int.reduceLT, Int.reduceLE, Int.reduceNeg, reduceCtorEq, Int.reduceEq, Int.reduceNe, p1, p3, p4, hg, gs, List.set_set]
                  refine AtFn.pure0 a1 ?_
                  simp -dsimp -implicitDefEqProofs (maxSteps := 1000000) only [go_sem, ↓reduceIte, Nat.reduceAdd, Nat.reduceSub, Nat.reduceMul, Nat.reduceLT, Nat.reduceLeDiff, Nat.reduceEqDiff, Nat.reduceBEq, Nat.reduceBNe, Int.reduceToNat, Int.reduceLT, Int.reduceLE, Int.reduceNeg, reduceCtorEq, Int.reduceEq, Int.reduceNe, gs, List.set_set]
                  refine AtCode.draw 11 [([], []), ([0], []), ([0, 1], []), ([], []), ([], []), ([4], []), ([], []), ([6], []), ([6, 7], []), ([6, 7, 8], []), ([4, 5, 6, 7, 8, 9], []), ([0, 1, 2, 3, 4, 5, 6, 7, 8, 9, 10], [])] (by kernel_rfl) ?_
                  simp -dsimp -implicitDefEqProofs (maxSteps := 1000000) only [go_sem, ↓reduceIte, Nat.reduceAdd, Nat.reduceSub, Nat.reduceMul, Nat.reduceLT, Nat.reduceLeDiff, Nat.reduceEqDiff, Nat.reduceBEq, Nat.reduceBNe, Int.reduceToNat, Int.reduceLT, Int.reduceLE, Int.reduceNeg, reduceCtorEq, Int.reduceEq, Int.reduceNe, c1, Int.toNat_natCast, Int.natCast_nonneg, hg, Nat.zero_add, gs]
                  refine QFn.use _ mi2 (by simp -dsimp -implicitDefEqProofs (maxSteps := 1000000) only [go_sem, ↓reduceIte, Nat.reduceAdd, Nat.reduceSub, Nat.reduceMul, Nat.reduceLT, Nat.reduceLeDiff, Nat.reduceEqDiff, Nat.reduceBEq, Nat.reduceBNe, Int.reduceToNat, Int.reduceLT, Int.reduceLE, Int.reduceNeg, reduceCtorEq, Int.reduceEq, Int.reduceNe]) ?_
                  simp -dsimp -implicitDefEqProofs (maxSteps := 1000000) only [go_sem, ↓reduceIte, Nat.reduceAdd, Nat.reduceSub, Nat.reduceMul, Nat.reduceLT, Nat.reduceLeDiff, Nat.reduceEqDiff, Nat.reduceBEq, Nat.reduceBNe, Int.reduceToNat, Int.reduceLT, Int.reduceLE, Int.reduceNeg, reduceCtorEq, Int.reduceEq, Int.reduceNe, c1, Int.toNat_natCast, Int.natCast_nonneg, hg, Nat.zero_add, gs]
                  refine AtFn.inl 400 [] mixed Try.func44 (by kernel_rfl) rfl (by rw [Try.results44]; rfl) (Nat.le_of_ble_eq_true rfl) ?_; rw [Try.ntmps44]
                  simp -dsimp -implicitDefEqProofs (maxSteps := 1000000) only [go_sem, ↓reduceIte, Nat.reduceAdd, Nat.reduceSub, Nat.reduceMul, Nat.reduceLT, Nat.reduceLeDiff, Nat.reduceEqDiff, Nat.reduceBEq, Nat.reduceBNe, Int.reduceToNat, Int.reduceLT, Int.reduceLE, Int.reduceNeg, reduceCtorEq, Int.reduceEq, Int.reduceNe, gs, List.set_set]
                  refine ⟨⟨k + 1, by omega⟩, by show cur.length - (k + 1) < cur.length - k; omega, Le.tl (Ls := [[]]) [] (by simp -dsimp -implicitDefEqProofs (maxSteps := 1000000) only [go_sem, ↓reduceIte, Nat.reduceAdd, Nat.reduceSub, Nat.reduceMul, Nat.reduceLT, Nat.reduceLeDiff, Nat.reduceEqDiff, Nat.reduceBEq, Nat.reduceBNe, Int.reduceToNat, Int.reduceLT, Int.reduceLE, Int.reduceNeg, reduceCtorEq, Int.reduceEq, Int.reduceNe, e3]) ?_ (by simp) (by simp [sg]) ⟨by simp -dsimp -implicitDefEqProofs (maxSteps := 1000000) only [go_sem, ↓reduceIte, Nat.reduceAdd, Nat.reduceSub, Nat.reduceMul, Nat.reduceLT, Nat.reduceLeDiff, Nat.reduceEqDiff, Nat.reduceBEq, Nat.reduceBNe, Int.reduceToNat, Int.reduceLT, Int.reduceLE, Int.reduceNeg, reduceCtorEq, Int.reduceEq, Int.reduceNe], trivial⟩⟩
                  simp -dsimp -implicitDefEqProofs (maxSteps := 1000000) only [go_sem, ↓reduceIte, Nat.reduceAdd, Nat.reduceSub, Nat.reduceMul, Nat.reduceLT, Nat.reduceLeDiff, Nat.reduceEqDiff, Nat.reduceBEq, Nat.reduceBNe, Int.reduceToNat, Int.reduceLT, Int.reduceLE, Int.reduceNeg, reduceCtorEq, Int.reduceEq, Int.reduceNe, hs]
                  exact renL_cl2 (fin _ (by simp [s2, likeW, p1, p3, p5])) ((clKnsL _).2 trivial)
              · skip
                simp -dsimp -implicitDefEqProofs (maxSteps := 1000000) only [go_sem, ↓reduceIte, Nat.reduceAdd, Nat.reduceSub, Nat.reduceMul, Nat.reduceLT, Nat.reduceLeDiff, Nat.reduceEqDiff, Nat.reduceBEq, Nat.reduceBNe, Int.reduceToNat, Int.reduceLT, Int.reduceLE, Int.reduceNeg, reduceCtorEq, Int.reduceEq, Int.reduceNe, k0, k1, e4, c1, Int.toNat_natCast, Int.natCast_nonneg, hg, Nat.zero_add]
                refine AtCode.drawB 10 [([], []), ([0], []), ([0, 1], []), ([0, 1, 2], []), ([], [9]), ([4], [9]), ([4, 5], [9]), ([4, 5, 6], [9]), ([], []), ([], []), ([0, 1, 2, 3, 8, 9], []), ([0, 1, 2, 3, 4, 5, 6, 7, 8, 9, 10], [])] [false, true] (by kernel_rfl) ?_
                simp -dsimp -implicitDefEqProofs (maxSteps := 1000000) only [go_sem, ↓reduceIte, Nat.reduceAdd, Nat.reduceSub, Nat.reduceMul, Nat.reduceLT, Nat.reduceLeDiff, Nat.reduceEqDiff, Nat.reduceBEq, Nat.reduceBNe, Int.reduceToNat, Int.reduceLT, Int.reduceLE, Int.reduceNeg, reduceCtorEq, Int.reduceEq, Int.reduceNe, e4, c1, Int.toNat_natCast, Int.natCast_nonneg, hg, Nat.zero_add]
                refine ⟨by kernel_rfl, ?_⟩
                refine AtCode.draw 11 [([], []), ([0], []), ([0, 1], []), ([], []), ([], []), ([4], []), ([4, 5], []), ([4, 5, 6], []), ([], []), ([8], []), ([4, 5, 6, 7, 8, 9], []), ([0, 1, 2, 3, 4, 5, 6, 7, 8, 9, 10], [])] (by kernel_rfl) ?_
                simp -dsimp -implicitDefEqProofs (maxSteps := 1000000) only [go_sem, ↓reduceIte, Nat.reduceAdd, Nat.reduceSub, Nat.reduceMul, Nat.reduceLT, Nat.reduceLeDiff, Nat.reduceEqDiff, Nat.reduceBEq, Nat.reduceBNe, Int.reduceToNat, Int.reduceLT, Int.reduceLE, Int.reduceNeg, reduceCtorEq, Int.reduceEq, Int.reduceNe, e4, c1, Int.toNat_natCast, Int.natCast_nonneg, hg, Nat.zero_add]
                refine QFn.use _ mi1 (by simp -dsimp -implicitDefEqProofs (maxSteps := 1000000) only [go_sem, ↓reduceIte, Nat.reduceAdd, Nat.reduceSub, Nat.reduceMul, Nat.reduceLT, Nat.reduceLeDiff, Nat.reduceEqDiff, Nat.reduceBEq, Nat.reduceBNe, Int.reduceToNat, Int.reduceLT, Int.reduceLE, Int.reduceNeg, reduceCtorEq, Int.reduceEq, Int.reduceNe]) ?_
                simp -dsimp -implicitDefEqProofs (maxSteps := 1000000) only [go_sem, ↓reduceIte, Nat.reduceAdd, Nat.reduceSub, Nat.reduceMul, Nat.reduceLT, Nat.reduceLeDiff, Nat.reduceEqDiff, Nat.reduceBEq, Nat.reduceBNe, Int.reduceToNat, Int.reduceLT, Int.reduceLE, Int.reduceNeg, reduceCtorEq, Int.reduceEq, Int.reduceNe, e4, c1, Int.toNat_natCast, Int.natCast_nonneg, hg, Nat.zero_add]
                refine AtFn.inl 400 [] mixed Try.func44 (by kernel_rfl) rfl (by rw [Try.results44]; rfl) (Nat.le_of_ble_eq_true rfl) ?_; rw [Try.ntmps44]
                simp -dsimp -implicitDefEqProofs (maxSteps := 1000000) only [go_sem, ↓reduceIte, Nat.reduceAdd, Nat.reduceSub, Nat.reduceMul, Nat.reduceLT, Nat.reduceLeDiff, Nat.reduceEqDiff, Nat.reduceBEq, Nat.reduceBNe, Int.reduceToNat, Int.reduceLT, Int.reduceLE, Int.reduceNeg, reduceCtorEq, Int.reduceEq, Int.reduceNe, p1, p2, p3, hg, gs, List.set_set]
                refine AtCode.drawB 8 [([], []), ([], [0]), ([], []), ([2], []), ([], [0]), ([4], [0]), ([0, 2, 3], []), ([0, 2, 3, 6], []), ([0, 2, 3, 6, 7], []), ([0, 1, 2, 3, 4, 5, 6, 7, 8], []), ([0, 1, 2, 3, 4, 5, 6, 7, 8, 9], []), ([0, 1, 2, 3, 4, 5, 6, 7, 8, 9, 10], [])] [false, true, true, true] (by kernel_rfl) ?_
                simp -dsimp -implicitDefEqProofs (maxSteps := 1000000) only [go_sem, ↓reduceIte, Nat.reduceAdd, Nat.reduceSub, Nat.reduceMul, Nat.reduceLT, Nat.reduceLeDiff, Nat.reduceEqDiff, Nat.reduceBEq, Nat.reduceBNe, Int.reduceToNat, Int.reduceLT, Int.reduceLE, Int.reduceNeg, reduceCtorEq, Int.reduceEq, Int.reduceNe, p1, p2, p3, hg, gs, List.set_set]
                refine ⟨by kernel_rfl, ?_⟩
                refine AtCode.draw 11 [([], []), ([0], []), ([0, 1], []), ([], []), ([], []), ([4], []), ([], []), ([6], []), ([6, 7], []), ([6, 7, 8], []), ([4, 5, 6, 7, 8, 9], []), ([0, 1, 2, 3, 4, 5, 6, 7, 8, 9, 10], [])] (by kernel_rfl) ?_
                simp -dsimp -implicitDefEqProofs (maxSteps := 1000000) only [go_sem, ↓reduceIte, Nat.reduceAdd, Nat.reduceSub, Nat.reduceMul, Nat.reduceLT, Nat.reduceLeDiff, Nat.reduceEqDiff, Nat.reduceBEq, Nat.reduceBNe, Int.reduceToNat, Int.reduceLT, Int.reduceLE, Int.reduceNeg, reduceCtorEq, Int.reduceEq, Int.reduceNe, c1, Int.toNat_natCast, Int.natCast_nonneg, hg, Nat.zero_add, gs]
                refine QFn.use _ mi2 (by simp -dsimp -implicitDefEqProofs (maxSteps := 1000000) only [go_sem, ↓reduceIte, Nat.reduceAdd, Nat.reduceSub, Nat.reduceMul, Nat.reduceLT, Nat.reduceLeDiff, Nat.reduceEqDiff, Nat.reduceBEq, Nat.reduceBNe, Int.reduceToNat, Int.reduceLT, Int.reduceLE, Int.reduceNeg, reduceCtorEq, Int.reduceEq, Int.reduceNe]) ?_
                simp -dsimp -implicitDefEqProofs (maxSteps := 1000000) only [go_sem, ↓reduceIte, Nat.reduceAdd, Nat.reduceSub, Nat.reduceMul, Nat.reduceLT, Nat.reduceLeDiff, Nat.reduceEqDiff, Nat.reduceBEq, Nat.reduceBNe, Int.reduceToNat, Int.reduceLT, Int.reduceLE, Int.reduceNeg, reduceCtorEq, Int.reduceEq, Int.reduceNe, c1, Int.toNat_natCast, Int.natCast_nonneg, hg, Nat.zero_add, gs]
                refine AtFn.inl 400 [] mixed Try.func44 (by kernel_rfl) rfl (by rw [Try.results44]; rfl) (Nat.le_of_ble_eq_true rfl) ?_; rw [Try.ntmps44]
                simp -dsimp -implicitDefEqProofs (maxSteps := 1000000) only [go_sem, ↓reduceIte, Nat.reduceAdd, Nat.reduceSub, Nat.reduceMul, Nat.reduceLT, Nat.reduceLeDiff, Nat.reduceEqDiff, Nat.reduceBEq, Nat.reduceBNe, Int.reduceToNat, Int.reduceLT, Int.reduceLE, Int.reduceNeg, reduceCtorEq, Int.reduceEq, Int.reduceNe, p2, gs, List.set_set]
                refine ⟨⟨k + 1, by omega⟩, by show cur.length - (k + 1) < cur.length - k; omega, Le.tl (Ls := [[]]) [] (by simp -dsimp -implicitDefEqProofs (maxSteps := 1000000) only [go_sem, ↓reduceIte, Nat.reduceAdd, Nat.reduceSub, Nat.reduceMul, Nat.reduceLT, Nat.reduceLeDiff, Nat.reduceEqDiff, Nat.reduceBEq, Nat.reduceBNe, Int.reduceToNat, Int.reduceLT, Int.reduceLE, Int.reduceNeg, reduceCtorEq, Int.reduceEq, Int.reduceNe, e3]) ?_ (by simp) (by simp [sg]) ⟨by simp -dsimp -implicitDefEqProofs (maxSteps := 1000000) only [go_sem, ↓reduceIte, Nat.reduceAdd, Nat.reduceSub, Nat.reduceMul, Nat.reduceLT, Nat.reduceLeDiff, Nat.reduceEqDiff, Nat.reduceBEq, Nat.reduceBNe, Int.reduceToNat, Int.reduceLT, Int.reduceLE, Int.reduceNeg, reduceCtorEq, Int.reduceEq, Int.reduceNe], trivial⟩⟩
                simp -dsimp -implicitDefEqProofs (maxSteps := 1000000) only [go_sem, ↓reduceIte, Nat.reduceAdd, Nat.reduceSub, Nat.reduceMul, Nat.reduceLT, Nat.reduceLeDiff, Nat.reduceEqDiff, Nat.reduceBEq, Nat.reduceBNe, Int.reduceToNat, Int.reduceLT, Int.reduceLE, Int.reduceNeg, reduceCtorEq, Int.reduceEq, Int.reduceNe, hs]
                exact renL_cl2 (fin _ (by simp [s2, likeW, p1, p2, p3])) ((clKnsL _).2 trivial)
          · by_cases p2 : z.c.op = 0
            · by_cases p3 : z.l.op = 3
              · by_cases p4 : [z.l.x - z.x, z.l.y - z.y] = [0, 0]
                · have p5 : z.l.x - z.x = 0 ∧ z.l.y - z.y = 0 := by simpa using p4
                  simp -dsimp -implicitDefEqProofs (maxSteps := 1000000) only [go_sem, ↓reduceIte, Nat.reduceAdd, Nat.reduceSub, Nat.reduceMul, Nat.reduceLT, Nat.reduceLeDiff, Nat.reduceEqDiff, Nat.reduceBEq, Nat.reduceBNe, Int.reduceToNat, Int.reduceLT, Int.reduceLE, Int.reduceNeg, reduceCtorEq, Int.reduceEq, Int.reduceNe, k0, k1, e4, c1, Int.toNat_natCast, Int.natCast_nonneg, hg, Nat.zero_add]
                  refine AtCode.drawB 10 [([], []), ([0], []), ([0, 1], []), ([0, 1, 2], []), ([], [9]), ([4], [9]), ([4, 5], [9]), ([4, 5, 6], [9]), ([], []), ([], []), ([0, 1, 2, 3, 8, 9], []), ([0, 1, 2, 3, 4, 5, 6, 7, 8, 9, 10], [])] [false, true] (by kernel_rfl) ?_
                  simp -dsimp -implicitDefEqProofs (maxSteps := 1000000) only [go_sem, ↓reduceIte, Nat.reduceAdd, Nat.reduceSub, Nat.reduceMul, Nat.reduceLT, Nat.reduceLeDiff, Nat.reduceEqDiff, Nat.reduceBEq, Nat.reduceBNe, Int.reduceToNat, Int.reduceLT, Int.reduceLE, Int.reduceNeg, reduceCtorEq, Int.reduceEq, Int.reduceNe, e4, c1, Int.toNat_natCast, Int.natCast_nonneg, hg, Nat.zero_add]
                  refine ⟨by kernel_rfl, ?_⟩
                  refine AtCode.draw 11 [([], []), ([0], []), ([0, 1], []), ([], []), ([], []), ([4], []), ([4, 5], []), ([4, 5, 6], []), ([], []), ([8], []), ([4, 5, 6, 7, 8, 9], []), ([0, 1, 2, 3, 4, 5, 6, 7, 8, 9, 10], [])] (by kernel_rfl) ?_
                  simp -dsimp -implicitDefEqProofs (maxSteps := 1000000) only [go_sem, ↓reduceIte, Nat.reduceAdd, Nat.reduceSub, Nat.reduceMul, Nat.reduceLT, Nat.reduceLeDiff, Nat.reduceEqDiff, Nat.reduceBEq, Nat.reduceBNe, Int.reduceToNat, Int.reduceLT, Int.reduceLE, Int.reduceNeg, reduceCtorEq, Int.reduceEq, Int.reduceNe, e4, c1, Int.toNat_natCast, Int.natCast_nonneg, hg, Nat.zero_add]
                  refine QFn.use _ mi1 (by simp -dsimp -implicitDefEqProofs (maxSteps := 1000000) only [go_sem, ↓reduceIte, Nat.reduceAdd, Nat.reduceSub, Nat.reduceMul, Nat.reduceLT, Nat.reduceLeDiff, Nat.reduceEqDiff, Nat.reduceBEq, Nat.reduceBNe, Int.reduceToNat, Int.reduceLT, Int.reduceLE, Int.reduceNeg, reduceCtorEq, Int.reduceEq, Int.reduceNe]) ?_
                  simp -dsimp -implicitDefEqProofs (maxSteps := 1000000) only [go_sem, ↓reduceIte, Nat.reduceAdd, Nat.reduceSub, Nat.reduceMul, Nat.reduceLT, Nat.reduceLeDiff, Nat.reduceEqDiff, Nat.reduceBEq, Nat.reduceBNe, Int.reduceToNat, Int.reduceLT, Int.reduceLE, Int.reduceNeg, reduceCtorEq, Int.reduceEq, Int.reduceNe, e4, c1, Int.toNat_natCast, Int.natCast_nonneg, hg, Nat.zero_add]
                  refine AtFn.inl 400 [] mixed Try.func44 (by kernel_rfl) rfl (by rw [Try.results44]; rfl) (Nat.le_of_ble_eq_true rfl) ?_; rw [Try.ntmps44]
                  simp -dsimp -implicitDefEqProofs (maxSteps := 1000000) only [go_sem, ↓reduceIte, Nat.reduceAdd, Nat.reduceSub, Nat.reduceMul, Nat.reduceLT, Nat.reduceLeDiff, Nat.reduceEqDiff, Nat.reduceBEq, Nat.reduceBNe, Int.reduceToNat, Int.reduceLT, Int.reduceLE, Int.reduceNeg, reduceCtorEq, Int.reduceEq, Int.reduceNe, p3, hg, gs, List.set_set]
                  refine AtCode.draw 11 [([], []), ([0], []), ([0, 1], []), ([], []), ([], []), ([4], []), ([], []), ([6], []), ([6, 7], []), ([6, 7, 8], []), ([4, 5, 6, 7, 8, 9], []), ([0, 1, 2, 3, 4, 5, 6, 7, 8, 9, 10], [])] (by kernel_rfl) ?_
                  simp -dsimp -implicitDefEqProofs (maxSteps := 1000000) only [go_sem, ↓reduceIte, Nat.reduceAdd, Nat.reduceSub, Nat.reduceMul, Nat.reduceLT, Nat.reduceLeDiff, Nat.reduceEqDiff, Nat.reduceBEq, Nat.reduceBNe, Int.reduceToNat, Int.reduceLT, Int.reduceLE, Int.reduceNeg, reduceCtorEq, Int.reduceEq, Int.reduceNe, c1, Int.toNat_natCast, Int.natCast_nonneg, hg, Nat.zero_add, gs]
                  refine QFn.use _ mi2 (by simp -dsimp -implicitDefEqProofs (maxSteps := 1000000) only [go_sem, ↓reduceIte, Nat.reduceAdd, Nat.reduceSub, Nat.reduceMul, Nat.reduceLT, Nat.reduceLeDiff, Nat.reduceEqDiff, Nat.reduceBEq, Nat.reduceBNe, Int.reduceToNat, Int.reduceLT, Int.reduceLE, Int.reduceNeg, reduceCtorEq, Int.reduceEq, Int.reduceNe]) ?_
                  simp -dsimp -implicitDefEqProofs (maxSteps := 1000000) only [go_sem, ↓reduceIte, Nat.reduceAdd, Nat.reduceSub, Nat.reduceMul, Nat.reduceLT, Nat.reduceLeDiff, Nat.reduceEqDiff, Nat.reduceBEq, Nat.reduceBNe, Int.reduceToNat, Int.reduceLT, Int.reduceLE, Int.reduceNeg, reduceCtorEq, Int.reduceEq, Int.reduceNe, c1, Int.toNat_natCast, Int.natCast_nonneg, hg, Nat.zero_add, gs]
                  refine AtFn.inl 400 [] mixed Try.func44 (by kernel_rfl) rfl (by rw [Try.results44]; rfl) (Nat.le_of_ble_eq_true rfl) ?_; rw [Try.ntmps44]
                  simp -dsimp -implicitDefEqProofs (maxSteps := 1000000) only [go_sem, ↓reduceIte, Nat.reduceAdd, Nat.reduceSub, Nat.reduceMul, Nat.reduceLT, Nat.reduceLeDiff, Nat.reduceEqDiff, Nat.reduceBEq, Nat.reduceBNe, Int.reduceToNat, Int.reduceLT, Int.reduceLE, Int.reduceNeg, reduceCtorEq, Int.reduceEq, Int.reduceNe, p2, p3, p4, hg, gs, List.set_set]
                  refine ⟨⟨k + 1, by omega⟩, by show cur.length - (k + 1) < cur.length - k; omega, Le.tl (Ls := [[]]) [] (by simp -dsimp -implicitDefEqProofs (maxSteps := 1000000) only [go_sem, ↓reduceIte, Nat.reduceAdd, Nat.reduceSub, Nat.reduceMul, Nat.reduceLT, Nat.reduceLeDiff, Nat.reduceEqDiff, Nat.reduceBEq, Nat.reduceBNe, Int.reduceToNat, Int.reduceLT, Int.reduceLE, Int.reduceNeg, reduceCtorEq, Int.reduceEq, Int.reduceNe, e3]) ?_ (by simp) (by simp [sg]) ⟨by simp -dsimp -implicitDefEqProofs (maxSteps := 1000000) only [go_sem, ↓reduceIte, Nat.reduceAdd, Nat.reduceSub, Nat.reduceMul, Nat.reduceLT, Nat.reduceLeDiff, Nat.reduceEqDiff, Nat.reduceBEq, Nat.reduceBNe, Int.reduceToNat, Int.reduceLT, Int.reduceLE, Int.reduceNeg, reduceCtorEq, Int.reduceEq, Int.reduceNe], trivial⟩⟩
                  simp -dsimp -implicitDefEqProofs (maxSteps := 1000000) only [go_sem, ↓reduceIte, Nat.reduceAdd, Nat.reduceSub, Nat.reduceMul, Nat.reduceLT, Nat.reduceLeDiff, Nat.reduceEqDiff, Nat.reduceBEq, Nat.reduceBNe, Int.reduceToNat, Int.reduceLT, Int.reduceLE, Int.reduceNeg, reduceCtorEq, Int.reduceEq, Int.reduceNe, hs]
                  exact renL_cl2 (fin _ (by simp [s2, likeW, p2, p3, p5])) ((clKnsL _).2 trivial)
                · have p5 : ¬ (z.l.x - z.x = 0 ∧ z.l.y - z.y = 0) := by simpa using p4
                  simp -dsimp -implicitDefEqProofs (maxSteps := 1000000) only [go_sem, ↓reduceIte, Nat.reduceAdd, Nat.reduceSub, Nat.reduceMul, Nat.reduceLT, Nat.reduceLeDiff, Nat.reduceEqDiff, Nat.reduceBEq, Nat.reduceBNe, Int.reduceToNat, Int.reduceLT, Int.reduceLE, Int.reduceNeg, reduceCtorEq, Int.reduceEq, Int.reduceNe, k0, k1, e4, c1, Int.toNat_natCast, Int.natCast_nonneg, hg, Nat.zero_add]
                  refine AtCode.drawB 10 [([], []), ([0], []), ([0, 1], []), ([0, 1, 2], []), ([], [9]), ([4], [9]), ([4, 5], [9]), ([4, 5, 6], [9]), ([], []), ([], []), ([0, 1, 2, 3, 8, 9], []), ([0, 1, 2, 3, 4, 5, 6, 7, 8, 9, 10], [])] [false, true] (by kernel_rfl) ?_
                  simp -dsimp -implicitDefEqProofs (maxSteps := 1000000) only [go_sem, ↓reduceIte, Nat.reduceAdd, Nat.reduceSub, Nat.reduceMul, Nat.reduceLT, Nat.reduceLeDiff, Nat.reduceEqDiff, Nat.reduceBEq, Nat.reduceBNe, Int.reduceToNat, Int.reduceLT, Int.reduceLE, Int.reduceNeg, reduceCtorEq, Int.reduceEq, Int.reduceNe, e4, c1, Int.toNat_natCast, Int.natCast_nonneg, hg, Nat.zero_add]
                  refine ⟨by kernel_rfl, ?_⟩
                  refine AtCode.draw 11 [([], []), ([0], []), ([0, 1], []), ([], []), ([], []), ([4], []), ([4, 5], []), ([4, 5, 6], []), ([], []), ([8], []), ([4, 5, 6, 7, 8, 9], []), ([0, 1, 2, 3, 4, 5, 6, 7, 8, 9, 10], [])] (by kernel_rfl) ?_
                  simp -dsimp -implicitDefEqProofs (maxSteps := 1000000) only [go_sem, ↓reduceIte, Nat.reduceAdd, Nat.reduceSub, Nat.reduceMul, Nat.reduceLT, Nat.reduceLeDiff, Nat.reduceEqDiff, Nat.reduceBEq, Nat.reduceBNe, Int.reduceToNat, Int.reduceLT, Int.reduceLE, Int.reduceNeg, reduceCtorEq, Int.reduceEq, Int.reduceNe, e4, c1, Int.toNat_natCast, Int.natCast_nonneg, hg, Nat.zero_add]
                  refine QFn.use _ mi1 (by simp -dsimp -implicitDefEqProofs (maxSteps := 1000000) only [go_sem, ↓reduceIte, Nat.reduceAdd, Nat.reduceSub, Nat.reduceMul, Nat.reduceLT, Nat.reduceLeDiff, Nat.reduceEqDiff, Nat.reduceBEq, Nat.reduceBNe, Int.reduceToNat, Int.reduceLT, Int.reduceLE, Int.reduceNeg, reduceCtorEq, Int.reduceEq, Int.reduceNe]) ?_
                  simp -dsimp -implicitDefEqProofs (maxSteps := 1000000) only [go_sem, ↓reduceIte, Nat.reduceAdd, Nat.reduceSub, Nat.reduceMul, Nat.reduceLT, Nat.reduceLeDiff, Nat.reduceEqDiff, Nat.reduceBEq, Nat.reduceBNe, Int.reduceToNat, Int.reduceLT, Int.reduceLE, Int.reduceNeg, reduceCtorEq, Int.reduceEq, Int.reduceNe, e4, c1, Int.toNat_natCast, Int.natCast_nonneg, hg, Nat.zero_add]
                  refine AtFn.inl 400 [] mixed Try.func44 (by kernel_rfl) rfl (by rw [Try.results44]; rfl) (Nat.le_of_ble_eq_true rfl) ?_; rw [Try.ntmps44]
                  simp -dsimp -implicitDefEqProofs (maxSteps := 1000000) only [go_sem, ↓reduceIte, Nat.reduceAdd, Nat.reduceSub, Nat.reduceMul, Nat.reduceLT, Nat.reduceLeDiff, Nat.reduceEqDiff, Nat.reduceBEq, Nat.reduceBNe, Int.reduceToNat, Int.reduceLT, Int.reduceLE, Int.reduceNeg, reduceCtorEq, Int.reduceEq, Int.reduceNe, p3, hg, gs, List.set_set]
                  refine AtCode.draw 11 [([], []), ([0], []), ([0, 1], []), ([], []), ([], []), ([4], []), ([], []), ([6], []), ([6, 7], []), ([6, 7, 8], []), ([4, 5, 6, 7, 8, 9], []), ([0, 1, 2, 3, 4, 5, 6, 7, 8, 9, 10], [])] (by kernel_rfl) ?_
                  simp -dsimp -implicitDefEqProofs (maxSteps := 1000000) only [go_sem, ↓reduceIte, Nat.reduceAdd, Nat.reduceSub, Nat.reduceMul, Nat.reduceLT, Nat.reduceLeDiff, Nat.reduceEqDiff, Nat.reduceBEq, Nat.reduceBNe, Int.reduceToNat, Int.reduceLT, Int.reduceLE, Int.reduceNeg, reduceCtorEq, Int.reduceEq, Int.reduceNe, c1, Int.toNat_natCast, Int.natCast_nonneg, hg, Nat.zero_add, gs]
                  refine QFn.use _ mi2 (by simp -dsimp -implicitDefEqProofs (maxSteps := 1000000) only [go_sem, ↓reduceIte, Nat.reduceAdd, Nat.reduceSub, Nat.reduceMul, Nat.reduceLT, Nat.reduceLeDiff, Nat.reduceEqDiff, Nat.reduceBEq, Nat.reduceBNe, Int.reduceToNat, Int.reduceLT, Int.reduceLE, Int.reduceNeg, reduceCtorEq, Int.reduceEq, Int.reduceNe]) ?_
                  simp -dsimp -implicitDefEqProofs (maxSteps := 1000000) only [go_sem, ↓reduceIte, Nat.reduceAdd, Nat.reduceSub, Nat.reduceMul, Nat.reduceLT, Nat.reduceLeDiff, Nat.reduceEqDiff, Nat.reduceBEq, Nat.reduceBNe, Int.reduceToNat, Int.reduceLT, Int.reduceLE, Int.reduceNeg, reduceCtorEq, Int.reduceEq, Int.reduceNe, c1, Int.toNat_natCast, Int.natCast_nonneg, hg, Nat.zero_add, gs]
                  refine AtFn.inl 400 [] mixed Try.func44 (by kernel_rfl) rfl (by rw [Try.results44]; rfl) (Nat.le_of_ble_eq_true rfl) ?_; rw [Try.ntmps44]
                  simp -dsimp -implicitDefEqProofs (maxSteps := 1000000) only [go_sem, ↓reduceIte, Nat.reduceAdd, Nat.reduceSub, Nat.reduceMul, Nat.reduceLT, Nat.reduceLeDiff, Nat.reduceEqDiff, Nat.reduceBEq, Nat.reduceBNe, Int.reduceToNat, Int.reduceLT, Int.reduceLE, Int.reduceNeg, reduceCtorEq, Int.reduceEq, Int.reduceNe, p2, p3, p4, hg, gs, List.set_set]
                  refine AtFn.pure0 a2 ?_
                  simp -dsimp -implicitDefEqProofs (maxSteps := 1000000) only [go_sem, ↓reduceIte, Nat.reduceAdd, Nat.reduceSub, Nat.reduceMul, Nat.reduceLT, Nat.reduceLeDiff, Nat.reduceEqDiff, Nat.reduceBEq, Nat.reduceBNe, Int.reduceToNat, Int.reduceLT, Int.reduceLE, Int.reduceNeg, reduceCtorEq, Int.reduceEq, Int.reduceNe, gs, List.set_set]
                  refine ⟨⟨k + 1, by omega⟩, by show cur.length - (k + 1) < cur.length - k; omega, Le.tl (Ls := [[]]) [] (by simp -dsimp -implicitDefEqProofs (maxSteps := 1000000) only [go_sem, ↓reduceIte, Nat.reduceAdd, Nat.reduceSub, Nat.reduceMul, Nat.reduceLT, Nat.reduceLeDiff, Nat.reduceEqDiff, Nat.reduceBEq, Nat.reduceBNe, Int.reduceToNat, Int.reduceLT, Int.reduceLE, Int.reduceNeg, reduceCtorEq, Int.reduceEq, Int.reduceNe, e3]) ?_ (by simp) (by simp [sg]) ⟨by simp -dsimp -implicitDefEqProofs (maxSteps := 1000000) only [go_sem, ↓reduceIte, Nat.reduceAdd, Nat.reduceSub, Nat.reduceMul, Nat.reduceLT, Nat.reduceLeDiff, Nat.reduceEqDiff, Nat.reduceBEq, Nat.reduceBNe, Int.reduceToNat, Int.reduceLT, Int.reduceLE, Int.reduceNeg, reduceCtorEq, Int.reduceEq, Int.reduceNe], trivial⟩⟩
                  simp -dsimp -implicitDefEqProofs (maxSteps := 1000000) only [go_sem, ↓reduceIte, Nat.reduceAdd, Nat.reduceSub, Nat.reduceMul, Nat.reduceLT, Nat.reduceLeDiff, Nat.reduceEqDiff, Nat.reduceBEq, Nat.reduceBNe, Int.reduceToNat, Int.reduceLT, Int.reduceLE, Int.reduceNeg, reduceCtorEq, Int.reduceEq, Int.reduceNe, hs]
                  exact renL_cl2 (fin _ (by simp [s2, likeW, p2, p3, p5])) ((clKnsL _).2 trivial)
              · skip
                simp -dsimp -implicitDefEqProofs (maxSteps := 1000000) only [go_sem, ↓reduceIte, Nat.reduceAdd, Nat.reduceSub, Nat.reduceMul, Nat.reduceLT, Nat.reduceLeDiff, Nat.reduceEqDiff, Nat.reduceBEq, Nat.reduceBNe, Int.reduceToNat, Int.reduceLT, Int.reduceLE, Int.reduceNeg, reduceCtorEq, Int.reduceEq, Int.reduceNe, k0, k1, e4, c1, Int.toNat_natCast, Int.natCast_nonneg, hg, Nat.zero_add]
                refine AtCode.drawB 10 [([], []), ([0], []), ([0, 1], []), ([0, 1, 2], []), ([], [9]), ([4], [9]), ([4, 5], [9]), ([4, 5, 6], [9]), ([], []), ([], []), ([0, 1, 2, 3, 8, 9], []), ([0, 1, 2, 3, 4, 5, 6, 7, 8, 9, 10], [])] [false, true] (by kernel_rfl) ?_
                simp -dsimp -implicitDefEqProofs (maxSteps := 1000000) only [go_sem, ↓reduceIte, Nat.reduceAdd, Nat.reduceSub, Nat.reduceMul, Nat.reduceLT, Nat.reduceLeDiff, Nat.reduceEqDiff, Nat.reduceBEq, Nat.reduceBNe, Int.reduceToNat, Int.reduceLT, Int.reduceLE, Int.reduceNeg, reduceCtorEq, Int.reduceEq, Int.reduceNe, e4, c1, Int.toNat_natCast, Int.natCast_nonneg, hg, Nat.zero_add]
                refine ⟨by kernel_rfl, ?_⟩
                refine AtCode.draw 11 [([], []), ([0], []), ([0, 1], []), ([], []), ([], []), ([4], []), ([4, 5], []), ([4, 5, 6], []), ([], []), ([8], []), ([4, 5, 6, 7, 8, 9], []), ([0, 1, 2, 3, 4, 5, 6, 7, 8, 9, 10], [])] (by kernel_rfl) ?_
                simp -dsimp -implicitDefEqProofs (maxSteps := 1000000) only [go_sem, ↓reduceIte, Nat.reduceAdd, Nat.reduceSub, Nat.reduceMul, Nat.reduceLT, Nat.reduceLeDiff, Nat.reduceEqDiff, Nat.reduceBEq, Nat.reduceBNe, Int.reduceToNat, Int.reduceLT, Int.reduceLE, Int.reduceNeg, reduceCtorEq, Int.reduceEq, Int.reduceNe, e4, c1, Int.toNat_natCast, Int.natCast_nonneg, hg, Nat.zero_add]
                refine QFn.use _ mi1 (by simp -dsimp -implicitDefEqProofs (maxSteps := 1000000) only [go_sem, ↓reduceIte, Nat.reduceAdd, Nat.reduceSub, Nat.reduceMul, Nat.reduceLT, Nat.reduceLeDiff, Nat.reduceEqDiff, Nat.reduceBEq, Nat.reduceBNe, Int.reduceToNat, Int.reduceLT, Int.reduceLE, Int.reduceNeg, reduceCtorEq, Int.reduceEq, Int.reduceNe]) ?_
                simp -dsimp -implicitDefEqProofs (maxSteps := 1000000) only [go_sem, ↓reduceIte, Nat.reduceAdd, Nat.reduceSub, Nat.reduceMul, Nat.reduceLT, Nat.reduceLeDiff, Nat.reduceEqDiff, Nat.reduceBEq, Nat.reduceBNe, Int.reduceToNat, Int.reduceLT, Int.reduceLE, Int.reduceNeg, reduceCtorEq, Int.reduceEq, Int.reduceNe, e4, c1, Int.toNat_natCast, Int.natCast_nonneg, hg, Nat.zero_add]
                refine AtFn.inl 400 [] mixed Try.func44 (by kernel_rfl) rfl (by rw [Try.results44]; rfl) (Nat.le_of_ble_eq_true rfl) ?_; rw [Try.ntmps44]
                simp -dsimp -implicitDefEqProofs (maxSteps := 1000000) only [go_sem, ↓reduceIte, Nat.reduceAdd, Nat.reduceSub, Nat.reduceMul, Nat.reduceLT, Nat.reduceLeDiff, Nat.reduceEqDiff, Nat.reduceBEq, Nat.reduceBNe, Int.reduceToNat, Int.reduceLT, Int.reduceLE, Int.reduceNeg, reduceCtorEq, Int.reduceEq, Int.reduceNe, p1, hg, gs, List.set_set]
                refine AtCode.draw 11 [([], []), ([0], []), ([0, 1], []), ([], []), ([], []), ([4], []), ([], []), ([6], []), ([6, 7], []), ([6, 7, 8], []), ([4, 5, 6, 7, 8, 9], []), ([0, 1, 2, 3, 4, 5, 6, 7, 8, 9, 10], [])] (by kernel_rfl) ?_
                simp -dsimp -implicitDefEqProofs (maxSteps := 1000000) only [go_sem, ↓reduceIte, Nat.reduceAdd, Nat.reduceSub, Nat.reduceMul, Nat.reduceLT, Nat.reduceLeDiff, Nat.reduceEqDiff, Nat.reduceBEq, Nat.reduceBNe, Int.reduceToNat, Int.reduceLT, Int.reduceLE, Int.reduceNeg, reduceCtorEq, Int.reduceEq, Int.reduceNe, c1, Int.toNat_natCast, Int.natCast_nonneg, hg, Nat.zero_add, gs]
                refine QFn.use _ mi2 (by simp -dsimp -implicitDefEqProofs (maxSteps := 1000000) only [go_sem, ↓reduceIte, Nat.reduceAdd, Nat.reduceSub, Nat.reduceMul, Nat.reduceLT, Nat.reduceLeDiff, Nat.reduceEqDiff, Nat.reduceBEq, Nat.reduceBNe, Int.reduceToNat, Int.reduceLT, Int.reduceLE, Int.reduceNeg, reduceCtorEq, Int.reduceEq, Int.reduceNe]) ?_
                simp -dsimp -implicitDefEqProofs (maxSteps := 1000000) only [go_sem, ↓reduceIte, Nat.reduceAdd, Nat.reduceSub, Nat.reduceMul, Nat.reduceLT, Nat.reduceLeDiff, Nat.reduceEqDiff, Nat.reduceBEq, Nat.reduceBNe, Int.reduceToNat, Int.reduceLT, Int.reduceLE, Int.reduceNeg, reduceCtorEq, Int.reduceEq, Int.reduceNe, c1, Int.toNat_natCast, Int.natCast_nonneg, hg, Nat.zero_add, gs]
                refine AtFn.inl 400 [] mixed Try.func44 (by kernel_rfl) rfl (by rw [Try.results44]; rfl) (Nat.le_of_ble_eq_true rfl) ?_; rw [Try.ntmps44]
                simp -dsimp -implicitDefEqProofs (maxSteps := 1000000) only [go_sem, ↓reduceIte, Nat.reduceAdd, Nat.reduceSub, Nat.reduceMul, Nat.reduceLT, Nat.reduceLeDiff, Nat.reduceEqDiff, Nat.reduceBEq, Nat.reduceBNe, Int.reduceToNat, Int.reduceLT, Int.reduceLE, Int.reduceNeg, reduceCtorEq, Int.reduceEq, Int.reduceNe, p1, p2, p3, hg, gs, List.set_set]
                refine AtCode.drawB 8 [([], []), ([], [0]), ([], []), ([2], []), ([], [0]), ([4], [0]), ([0, 2, 3], []), ([0, 2, 3, 6], []), ([0, 2, 3, 6, 7], []), ([0, 1, 2, 3, 4, 5, 6, 7, 8], []), ([0, 1, 2, 3, 4, 5, 6, 7, 8, 9], []), ([0, 1, 2, 3, 4, 5, 6, 7, 8, 9, 10], [])] [false, true, true, true] (by kernel_rfl) ?_
                simp -dsimp -implicitDefEqProofs (maxSteps := 1000000) only [go_sem, ↓reduceIte, Nat.reduceAdd, Nat.reduceSub, Nat.reduceMul, Nat.reduceLT, Nat.reduceLeDiff, Nat.reduceEqDiff, Nat.reduceBEq, Nat.reduceBNe, Int.reduceToNat, Int.reduceLT, Int.reduceLE, Int.reduceNeg, reduceCtorEq, Int.reduceEq, Int.reduceNe, p1, p2, p3, hg, gs, List.set_set]
                refine ⟨by kernel_rfl, ?_⟩
                refine ⟨⟨k + 1, by omega⟩, by show cur.length - (k + 1) < cur.length - k; omega, Le.tl (Ls := [[]]) [] (by simp -dsimp -implicitDefEqProofs (maxSteps := 1000000) only [go_sem, ↓reduceIte, Nat.reduceAdd, Nat.reduceSub, Nat.reduceMul, Nat.reduceLT, Nat.reduceLeDiff, Nat.reduceEqDiff, Nat.reduceBEq, Nat.reduceBNe, Int.reduceToNat, Int.reduceLT, Int.reduceLE, Int.reduceNeg, reduceCtorEq, Int.reduceEq, Int.reduceNe, e3]) ?_ (by simp) (by simp [sg]) ⟨by simp -dsimp -implicitDefEqProofs (maxSteps := 1000000) only [go_sem, ↓reduceIte, Nat.reduceAdd, Nat.reduceSub, Nat.reduceMul, Nat.reduceLT, Nat.reduceLeDiff, Nat.reduceEqDiff, Nat.reduceBEq, Nat.reduceBNe, Int.reduceToNat, Int.reduceLT, Int.reduceLE, Int.reduceNeg, reduceCtorEq, Int.reduceEq, Int.reduceNe], trivial⟩⟩
                simp -dsimp -implicitDefEqProofs (maxSteps := 1000000) only [go_sem, ↓reduceIte, Nat.reduceAdd, Nat.reduceSub, Nat.reduceMul, Nat.reduceLT, Nat.reduceLeDiff, Nat.reduceEqDiff, Nat.reduceBEq, Nat.reduceBNe, Int.reduceToNat, Int.reduceLT, Int.reduceLE, Int.reduceNeg, reduceCtorEq, Int.reduceEq, Int.reduceNe, hs]
                exact renL_cl2 (fin _ (by simp [s2, likeW, p1, p2, p3])) ((clKnsL _).2 trivial)
            · skip
              simp -dsimp -implicitDefEqProofs (maxSteps := 1000000) only [go_sem, ↓reduceIte, Nat.reduceAdd, Nat.reduceSub, Nat.reduceMul, Nat.reduceLT, Nat.reduceLeDiff, Nat.reduceEqDiff, Nat.reduceBEq, Nat.reduceBNe, Int.reduceToNat, Int.reduceLT, Int.reduceLE, Int.reduceNeg, reduceCtorEq, Int.reduceEq, Int.reduceNe, k0, k1, e4, c1, Int.toNat_natCast, Int.natCast_nonneg, hg, Nat.zero_add]
              refine AtCode.drawB 10 [([], []), ([0], []), ([0, 1], []), ([0, 1, 2], []), ([], [9]), ([4], [9]), ([4, 5], [9]), ([4, 5, 6], [9]), ([], []), ([], []), ([0, 1, 2, 3, 8, 9], []), ([0, 1, 2, 3, 4, 5, 6, 7, 8, 9, 10], [])] [false, true] (by kernel_rfl) ?_
              simp -dsimp -implicitDefEqProofs (maxSteps := 1000000) only [go_sem, ↓reduceIte, Nat.reduceAdd, Nat.reduceSub, Nat.reduceMul, Nat.reduceLT, Nat.reduceLeDiff, Nat.reduceEqDiff, Nat.reduceBEq, Nat.reduceBNe, Int.reduceToNat, Int.reduceLT, Int.reduceLE, Int.reduceNeg, reduceCtorEq, Int.reduceEq, Int.reduceNe, e4, c1, Int.toNat_natCast, Int.natCast_nonneg, hg, Nat.zero_add]
              refine ⟨by kernel_rfl, ?_⟩
              refine AtCode.draw 11 [([], []), ([0], []), ([0, 1], []), ([], []), ([], []), ([4], []), ([4, 5], []), ([4, 5, 6], []), ([], []), ([8], []), ([4, 5, 6, 7, 8, 9], []), ([0, 1, 2, 3, 4, 5, 6, 7, 8, 9, 10], [])] (by kernel_rfl) ?_
              simp -dsimp -implicitDefEqProofs (maxSteps := 1000000) only [go_sem, ↓reduceIte, Nat.reduceAdd, Nat.reduceSub, Nat.reduceMul, Nat.reduceLT, Nat.reduceLeDiff, Nat.reduceEqDiff, Nat.reduceBEq, Nat.reduceBNe, Int.reduceToNat, Int.reduceLT, Int.reduceLE, Int.reduceNeg, reduceCtorEq, Int.reduceEq, Int.reduceNe, e4, c1, Int.toNat_natCast, Int.natCast_nonneg, hg, Nat.zero_add]
              refine QFn.use _ mi1 (by simp -dsimp -implicitDefEqProofs (maxSteps := 1000000) only [go_sem, ↓reduceIte, Nat.reduceAdd, Nat.reduceSub, Nat.reduceMul, Nat.reduceLT, Nat.reduceLeDiff, Nat.reduceEqDiff, Nat.reduceBEq, Nat.reduceBNe, Int.reduceToNat, Int.reduceLT, Int.reduceLE, Int.reduceNeg, reduceCtorEq, Int.reduceEq, Int.reduceNe]) ?_
              simp -dsimp -implicitDefEqProofs (maxSteps := 1000000) only [go_sem, ↓reduceIte, Nat.reduceAdd, Nat.reduceSub, Nat.reduceMul, Nat.reduceLT, Nat.reduceLeDiff, Nat.reduceEqDiff, Nat.reduceBEq, Nat.reduceBNe, Int.reduceToNat, Int.reduceLT, Int.reduceLE, Int.reduceNeg, reduceCtorEq, Int.reduceEq, Int.reduceNe, e4, c1, Int.toNat_natCast, Int.natCast_nonneg, hg, Nat.zero_add]
              refine AtFn.inl 400 [] mixed Try.func44 (by kernel_rfl) rfl (by rw [Try.results44]; rfl) (Nat.le_of_ble_eq_true rfl) ?_; rw [Try.ntmps44]
              simp -dsimp -implicitDefEqProofs (maxSteps := 1000000) only [go_sem, ↓reduceIte, Nat.reduceAdd, Nat.reduceSub, Nat.reduceMul, Nat.reduceLT, Nat.reduceLeDiff, Nat.reduceEqDiff, Nat.reduceBEq, Nat.reduceBNe, Int.reduceToNat, Int.reduceLT, Int.reduceLE, Int.reduceNeg, reduceCtorEq, Int.reduceEq, Int.reduceNe, p1, hg]
              refine AtCode.draw 11 [([], []), ([0], []), ([0, 1], []), ([], []), ([], []), ([4], []), ([], []), ([6], []), ([6, 7], []), ([6, 7, 8], []), ([4, 5, 6, 7, 8, 9], []), ([0, 1, 2, 3, 4, 5, 6, 7, 8, 9, 10], [])] (by kernel_rfl) ?_
              simp -dsimp -implicitDefEqProofs (maxSteps := 1000000) only [go_sem, ↓reduceIte, Nat.reduceAdd, Nat.reduceSub, Nat.reduceMul, Nat.reduceLT, Nat.reduceLeDiff, Nat.reduceEqDiff, Nat.reduceBEq, Nat.reduceBNe, Int.reduceToNat, Int.reduceLT, Int.reduceLE, Int.reduceNeg, reduceCtorEq, Int.reduceEq, Int.reduceNe, c1, Int.toNat_natCast, Int.natCast_nonneg, hg, Nat.zero_add, gs]
              refine QFn.use _ mi2 (by simp -dsimp -implicitDefEqProofs (maxSteps := 1000000) only [go_sem, ↓reduceIte, Nat.reduceAdd, Nat.reduceSub, Nat.reduceMul, Nat.reduceLT, Nat.reduceLeDiff, Nat.reduceEqDiff, Nat.reduceBEq, Nat.reduceBNe, Int.reduceToNat, Int.reduceLT, Int.reduceLE, Int.reduceNeg, reduceCtorEq, Int.reduceEq, Int.reduceNe]) ?_
              simp -dsimp -implicitDefEqProofs (maxSteps := 1000000) only [go_sem, ↓reduceIte, Nat.reduceAdd, Nat.reduceSub, Nat.reduceMul, Nat.reduceLT, Nat.reduceLeDiff, Nat.reduceEqDiff, Nat.reduceBEq, Nat.reduceBNe, Int.reduceToNat, Int.reduceLT, Int.reduceLE, Int.reduceNeg, reduceCtorEq, Int.reduceEq, Int.reduceNe, c1, Int.toNat_natCast, Int.natCast_nonneg, hg, Nat.zero_add, gs]
              refine AtFn.inl 400 [] mixed Try.func44 (by kernel_rfl) rfl (by rw [Try.results44]; rfl) (Nat.le_of_ble_eq_true rfl) ?_; rw [Try.ntmps44]
              simp -dsimp -implicitDefEqProofs (maxSteps := 1000000) only [go_sem, ↓reduceIte, Nat.reduceAdd, Nat.reduceSub, Nat.reduceMul, Nat.reduceLT, Nat.reduceLeDiff, Nat.reduceEqDiff, Nat.reduceBEq, Nat.reduceBNe, Int.reduceToNat, Int.reduceLT, Int.reduceLE, Int.reduceNeg, reduceCtorEq, Int.reduceEq, Int.reduceNe, p2, hg]
              refine ⟨⟨k + 1, by omega⟩, by show cur.length - (k + 1) < cur.length - k; omega, Le.tl (Ls := [[]]) [] (by simp -dsimp -implicitDefEqProofs (maxSteps := 1000000) only [go_sem, ↓reduceIte, Nat.reduceAdd, Nat.reduceSub, Nat.reduceMul, Nat.reduceLT, Nat.reduceLeDiff, Nat.reduceEqDiff, Nat.reduceBEq, Nat.reduceBNe, Int.reduceToNat, Int.reduceLT, Int.reduceLE, Int.reduceNeg, reduceCtorEq, Int.reduceEq, Int.reduceNe, e3]) ?_ (by simp) (by simp [sg]) ⟨by simp -dsimp -implicitDefEqProofs (maxSteps := 1000000) only [go_sem, ↓reduceIte, Nat.reduceAdd, Nat.reduceSub, Nat.reduceMul, Nat.reduceLT, Nat.reduceLeDiff, Nat.reduceEqDiff, Nat.reduceBEq, Nat.reduceBNe, Int.reduceToNat, Int.reduceLT, Int.reduceLE, Int.reduceNeg, reduceCtorEq, Int.reduceEq, Int.reduceNe], trivial⟩⟩
              simp -dsimp -implicitDefEqProofs (maxSteps := 1000000) only [go_sem, ↓reduceIte, Nat.reduceAdd, Nat.reduceSub, Nat.reduceMul, Nat.reduceLT, Nat.reduceLeDiff, Nat.reduceEqDiff, Nat.reduceBEq, Nat.reduceBNe, Int.reduceToNat, Int.reduceLT, Int.reduceLE, Int.reduceNeg, reduceCtorEq, Int.reduceEq, Int.reduceNe, hs]
              exact renL_cl2 (g2 p1 p2) ((clKnsL _).2 trivial)
    · have hkl : k = l.length := by omega
      subst hkl
      obtain ⟨cur, hcur⟩ : ∃ cur, cur = s2N c l.length l1 := ⟨_, rfl⟩
      have hcl : cur.length = l.length := by rw [hcur, s2N_len, hll]
      rw [← hcur]
      cases c with
      | true =>
        simp -dsimp -implicitDefEqProofs (maxSteps := 1000000) only [go_sem, ↓reduceIte, Nat.reduceAdd, Nat.reduceSub, Nat.reduceMul, Nat.reduceLT, Nat.reduceLeDiff, Nat.reduceEqDiff, Nat.reduceBEq, Nat.reduceBNe, Int.reduceToNat, Int.reduceLT, Int.reduceLE, Int.reduceNeg, reduceCtorEq, Int.reduceEq, Int.reduceNe]
        have hs3 : s3 true cur = cur := rfl
        rw [hs3, hcl]
        exact FinM.mk0 [] (by simp -dsimp -implicitDefEqProofs (maxSteps := 1000000) only [go_sem, ↓reduceIte, Nat.reduceAdd, Nat.reduceSub, Nat.reduceMul, Nat.reduceLT, Nat.reduceLeDiff, Nat.reduceEqDiff, Nat.reduceBEq, Nat.reduceBNe, Int.reduceToNat, Int.reduceLT, Int.reduceLE, Int.reduceNeg, reduceCtorEq, Int.reduceEq, Int.reduceNe]) (by simp -dsimp -implicitDefEqProofs (maxSteps := 1000000) only [go_sem, ↓reduceIte, Nat.reduceAdd, Nat.reduceSub, Nat.reduceMul, Nat.reduceLT, Nat.reduceLeDiff, Nat.reduceEqDiff, Nat.reduceBEq, Nat.reduceBNe, Int.reduceToNat, Int.reduceLT, Int.reduceLE, Int.reduceNeg, reduceCtorEq, Int.reduceEq, Int.reduceNe]; exact renL_cl rfl ((clKnsL _).2 trivial)) (by simp) (by simp [sg])
      | false =>
        have e4 : wr (((cur.length : Nat) : Int) - 1) = ((cur.length - 1 : Nat) : Int) := by rw [wr_in] <;> omega
        have c0 : (0 : Int) < ((cur.length : Nat) : Int) := by omega
        have c1 : ((cur.length - 1 : Nat) : Int) < ((cur.length : Nat) : Int) := by omega
        rw [← hcl]
        simp -dsimp -implicitDefEqProofs (maxSteps := 1000000) only [go_sem, ↓reduceIte, Nat.reduceAdd, Nat.reduceSub, Nat.reduceMul, Nat.reduceLT, Nat.reduceLeDiff, Nat.reduceEqDiff, Nat.reduceBEq, Nat.reduceBNe, Int.reduceToNat, Int.reduceLT, Int.reduceLE, Int.reduceNeg, reduceCtorEq, Int.reduceEq, Int.reduceNe]
        refine AtCode.draw 12 [([], []), ([0], []), ([0, 1], []), ([], []), ([], []), ([4], []), ([4, 5], []), ([3, 4, 5, 6], []), ([3, 4, 5, 6, 7], []), ([0, 1, 2, 3, 4, 5, 6, 7, 8], []), ([0, 1, 2, 3, 4, 5, 6, 7, 8, 9], []), ([], [])] (by kernel_rfl) ?_
        simp -dsimp -implicitDefEqProofs (maxSteps := 1000000) only [go_sem, ↓reduceIte, Nat.reduceAdd, Nat.reduceSub, Nat.reduceMul, Nat.reduceLT, Nat.reduceLeDiff, Nat.reduceEqDiff, Nat.reduceBEq, Nat.reduceBNe, Int.reduceToNat, Int.reduceLT, Int.reduceLE, Int.reduceNeg, reduceCtorEq, Int.reduceEq, Int.reduceNe, e4, c0, c1, Int.toNat_natCast, Int.natCast_nonneg, Nat.zero_add]
        have hA : (s3A cur).length = cur.length := by unfold s3A; simp
        have hB : (s3B (s3A cur)).length = cur.length := by unfold s3B; simp [hA]
        have gA := getKn (l := cur) (i := 0) (by omega)
        have gB := getKn (l := s3A cur) (i := cur.length - 1) (by omega)
        obtain ⟨a, ha⟩ : ∃ a, a = cur.getD 0 zK := ⟨_, rfl⟩
        obtain ⟨b, hb⟩ : ∃ b, b = (s3A cur).getD (cur.length - 1) zK := ⟨_, rfl⟩
        rw [← ha] at gA
        rw [← hb] at gB
        have eA : s3A cur = cur.set 0 ⟨a.x, a.y, a.c, opnW a.l⟩ := by rw [ha]; rfl
        have eB : s3B (s3A cur) = (s3A cur).set (cur.length - 1) ⟨b.x, b.y, opnW b.c, b.l⟩ := by rw [hb]; unfold s3B; rw [hA]
        have sA : ∀ L, L = KnC ⟨a.x, a.y, a.c, opnW a.l⟩ → (cur.map KnC).set 0 L = (s3A cur).map KnC := fun L h => by rw [h, setKn, eA]
        have sB : ∀ L, L = KnC ⟨b.x, b.y, opnW b.c, b.l⟩ → ((s3A cur).map KnC).set (cur.length - 1) L = (s3B (s3A cur)).map KnC := fun L h => by rw [h, setKn, eB]
        have gsA : ∀ x : List AV, ((cur.map KnC).set 0 x)[0]? = some x := fun x => List.getElem?_set_self (by rw [List.length_map]; omega)
        have gsB : ∀ x : List AV, (((s3A cur).map KnC).set (cur.length - 1) x)[cur.length - 1]? = some x := fun x => List.getElem?_set_self (by rw [List.length_map]; omega)
        refine AtLoop.st (endI cur) 2 ⟨by decide, by simp -dsimp -implicitDefEqProofs (maxSteps := 1000000) only [go_sem, ↓reduceIte, Nat.reduceAdd, Nat.reduceSub, Nat.reduceMul, Nat.reduceLT, Nat.reduceLeDiff, Nat.reduceEqDiff, Nat.reduceBEq, Nat.reduceBNe, Int.reduceToNat, Int.reduceLT, Int.reduceLE, Int.reduceNeg, reduceCtorEq, Int.reduceEq, Int.reduceNe], by simp -dsimp -implicitDefEqProofs (maxSteps := 1000000) only [go_sem, ↓reduceIte, Nat.reduceAdd, Nat.reduceSub, Nat.reduceMul, Nat.reduceLT, Nat.reduceLeDiff, Nat.reduceEqDiff, Nat.reduceBEq, Nat.reduceBNe, Int.reduceToNat, Int.reduceLT, Int.reduceLE, Int.reduceNeg, reduceCtorEq, Int.reduceEq, Int.reduceNe], by simp -dsimp -implicitDefEqProofs (maxSteps := 1000000) only [go_sem, ↓reduceIte, Nat.reduceAdd, Nat.reduceSub, Nat.reduceMul, Nat.reduceLT, Nat.reduceLeDiff, Nat.reduceEqDiff, Nat.reduceBEq, Nat.reduceBNe, Int.reduceToNat, Int.reduceLT, Int.reduceLE, Int.reduceNeg, reduceCtorEq, Int.reduceEq, Int.reduceNe], by simp -dsimp -implicitDefEqProofs (maxSteps := 1000000) only [go_sem, ↓reduceIte, Nat.reduceAdd, Nat.reduceSub, Nat.reduceMul, Nat.reduceLT, Nat.reduceLeDiff, Nat.reduceEqDiff, Nat.reduceBEq, Nat.reduceBNe, Int.reduceToNat, Int.reduceLT, Int.reduceLE, Int.reduceNeg, reduceCtorEq, Int.reduceEq, Int.reduceNe], rfl⟩ fun m hh tt kk hI => ?_
        obtain ⟨b1, b2, b3, b4, b5, rfl⟩ := hI
        match m, b1 with
        | 2, _ =>
          have b5' : tt 134 = I 0 := b5
          have b6 : s3I cur (2 - 2) = cur := rfl
          by_cases ho : a.l.op = 0
          · simp -dsimp -implicitDefEqProofs (maxSteps := 1000000) only [go_sem, ↓reduceIte, Nat.reduceAdd, Nat.reduceSub, Nat.reduceMul, Nat.reduceLT, Nat.reduceLeDiff, Nat.reduceEqDiff, Nat.reduceBEq, Nat.reduceBNe, Int.reduceToNat, Int.reduceLT, Int.reduceLE, Int.reduceNeg, reduceCtorEq, Int.reduceEq, Int.reduceNe, b2, b3, b4, b5', b6, gA, ho, gsA, List.set_set]
            refine st_mk (I := endI cur) 1 (by decide) ⟨by decide, by simp -dsimp -implicitDefEqProofs (maxSteps := 1000000) only [go_sem, ↓reduceIte, Nat.reduceAdd, Nat.reduceSub, Nat.reduceMul, Nat.reduceLT, Nat.reduceLeDiff, Nat.reduceEqDiff, Nat.reduceBEq, Nat.reduceBNe, Int.reduceToNat, Int.reduceLT, Int.reduceLE, Int.reduceNeg, reduceCtorEq, Int.reduceEq, Int.reduceNe, b2], by simp -dsimp -implicitDefEqProofs (maxSteps := 1000000) only [go_sem, ↓reduceIte, Nat.reduceAdd, Nat.reduceSub, Nat.reduceMul, Nat.reduceLT, Nat.reduceLeDiff, Nat.reduceEqDiff, Nat.reduceBEq, Nat.reduceBNe, Int.reduceToNat, Int.reduceLT, Int.reduceLE, Int.reduceNeg, reduceCtorEq, Int.reduceEq, Int.reduceNe, b3], by simp -dsimp -implicitDefEqProofs (maxSteps := 1000000) only [go_sem, ↓reduceIte, Nat.reduceAdd, Nat.reduceSub, Nat.reduceMul, Nat.reduceLT, Nat.reduceLeDiff, Nat.reduceEqDiff, Nat.reduceBEq, Nat.reduceBNe, Int.reduceToNat, Int.reduceLT, Int.reduceLE, Int.reduceNeg, reduceCtorEq, Int.reduceEq, Int.reduceNe, b4], by simp -dsimp -implicitDefEqProofs (maxSteps := 1000000) only [go_sem, ↓reduceIte, Nat.reduceAdd, Nat.reduceSub, Nat.reduceMul, Nat.reduceLT, Nat.reduceLeDiff, Nat.reduceEqDiff, Nat.reduceBEq, Nat.reduceBNe, Int.reduceToNat, Int.reduceLT, Int.reduceLE, Int.reduceNeg, reduceCtorEq, Int.reduceEq, Int.reduceNe]; rfl, ?_⟩
            rw [sA _ (by simp [opnW, ho])]; rfl
          · simp -dsimp -implicitDefEqProofs (maxSteps := 1000000) only [go_sem, ↓reduceIte, Nat.reduceAdd, Nat.reduceSub, Nat.reduceMul, Nat.reduceLT, Nat.reduceLeDiff, Nat.reduceEqDiff, Nat.reduceBEq, Nat.reduceBNe, Int.reduceToNat, Int.reduceLT, Int.reduceLE, Int.reduceNeg, reduceCtorEq, Int.reduceEq, Int.reduceNe, b2, b3, b4, b5', b6, gA, ho]
            refine st_mk (I := endI cur) 1 (by decide) ⟨by decide, by simp -dsimp -implicitDefEqProofs (maxSteps := 1000000) only [go_sem, ↓reduceIte, Nat.reduceAdd, Nat.reduceSub, Nat.reduceMul, Nat.reduceLT, Nat.reduceLeDiff, Nat.reduceEqDiff, Nat.reduceBEq, Nat.reduceBNe, Int.reduceToNat, Int.reduceLT, Int.reduceLE, Int.reduceNeg, reduceCtorEq, Int.reduceEq, Int.reduceNe, b2], by simp -dsimp -implicitDefEqProofs (maxSteps := 1000000) only [go_sem, ↓reduceIte, Nat.reduceAdd, Nat.reduceSub, Nat.reduceMul, Nat.reduceLT, Nat.reduceLeDiff, Nat.reduceEqDiff, Nat.reduceBEq, Nat.reduceBNe, Int.reduceToNat, Int.reduceLT, Int.reduceLE, Int.reduceNeg, reduceCtorEq, Int.reduceEq, Int.reduceNe, b3], by simp -dsimp -implicitDefEqProofs (maxSteps := 1000000) only [go_sem, ↓reduceIte, Nat.reduceAdd, Nat.reduceSub, Nat.reduceMul, Nat.reduceLT, Nat.reduceLeDiff, Nat.reduceEqDiff, Nat.reduceBEq, Nat.reduceBNe, Int.reduceToNat, Int.reduceLT, Int.reduceLE, Int.reduceNeg, reduceCtorEq, Int.reduceEq, Int.reduceNe, b4], by simp -dsimp -implicitDefEqProofs (maxSteps := 1000000) only [go_sem, ↓reduceIte, Nat.reduceAdd, Nat.reduceSub, Nat.reduceMul, Nat.reduceLT, Nat.reduceLeDiff, Nat.reduceEqDiff, Nat.reduceBEq, Nat.reduceBNe, Int.reduceToNat, Int.reduceLT, Int.reduceLE, Int.reduceNeg, reduceCtorEq, Int.reduceEq, Int.reduceNe]; rfl, ?_⟩
            have : cur = s3A cur := by
              rw [eA]
              have : (⟨a.x, a.y, a.c, opnW a.l⟩ : Kn) = a := by unfold opnW; rw [if_neg ho]
              rw [this, ha, setGetD]
            show _ = [(0, (⟨12, (s3A cur).map KnC⟩ : Blk))]
            rw [← this]
        | 1, _ =>
          have b5' : tt 134 = I 1 := b5
          have b6 : s3I cur (2 - 1) = s3A cur := rfl
          by_cases ho : b.c.op = 0
          · simp -dsimp -implicitDefEqProofs (maxSteps := 1000000) only [go_sem, ↓reduceIte, Nat.reduceAdd, Nat.reduceSub, Nat.reduceMul, Nat.reduceLT, Nat.reduceLeDiff, Nat.reduceEqDiff, Nat.reduceBEq, Nat.reduceBNe, Int.reduceToNat, Int.reduceLT, Int.reduceLE, Int.reduceNeg, reduceCtorEq, Int.reduceEq, Int.reduceNe, b2, b3, b4, b5', b6, gB, ho, gsB, List.set_set]
            refine st_mk (I := endI cur) 0 (by decide) ⟨by decide, by simp -dsimp -implicitDefEqProofs (maxSteps := 1000000) only [go_sem, ↓reduceIte, Nat.reduceAdd, Nat.reduceSub, Nat.reduceMul, Nat.reduceLT, Nat.reduceLeDiff, Nat.reduceEqDiff, Nat.reduceBEq, Nat.reduceBNe, Int.reduceToNat, Int.reduceLT, Int.reduceLE, Int.reduceNeg, reduceCtorEq, Int.reduceEq, Int.reduceNe, b2], by simp -dsimp -implicitDefEqProofs (maxSteps := 1000000) only [go_sem, ↓reduceIte, Nat.reduceAdd, Nat.reduceSub, Nat.reduceMul, Nat.reduceLT, Nat.reduceLeDiff, Nat.reduceEqDiff, Nat.reduceBEq, Nat.reduceBNe, Int.reduceToNat, Int.reduceLT, Int.reduceLE, Int.reduceNeg, reduceCtorEq, Int.reduceEq, Int.reduceNe, b3], by simp -dsimp -implicitDefEqProofs (maxSteps := 1000000) only [go_sem, ↓reduceIte, Nat.reduceAdd, Nat.reduceSub, Nat.reduceMul, Nat.reduceLT, Nat.reduceLeDiff, Nat.reduceEqDiff, Nat.reduceBEq, Nat.reduceBNe, Int.reduceToNat, Int.reduceLT, Int.reduceLE, Int.reduceNeg, reduceCtorEq, Int.reduceEq, Int.reduceNe, b4], by simp -dsimp -implicitDefEqProofs (maxSteps := 1000000) only [go_sem, ↓reduceIte, Nat.reduceAdd, Nat.reduceSub, Nat.reduceMul, Nat.reduceLT, Nat.reduceLeDiff, Nat.reduceEqDiff, Nat.reduceBEq, Nat.reduceBNe, Int.reduceToNat, Int.reduceLT, Int.reduceLE, Int.reduceNeg, reduceCtorEq, Int.reduceEq, Int.reduceNe]; rfl, ?_⟩
            rw [sB _ (by simp [opnW, ho])]; rfl
          · simp -dsimp -implicitDefEqProofs (maxSteps := 1000000) only [go_sem, ↓reduceIte, Nat.reduceAdd, Nat.reduceSub, Nat.reduceMul, Nat.reduceLT, Nat.reduceLeDiff, Nat.reduceEqDiff, Nat.reduceBEq, Nat.reduceBNe, Int.reduceToNat, Int.reduceLT, Int.reduceLE, Int.reduceNeg, reduceCtorEq, Int.reduceEq, Int.reduceNe, b2, b3, b4, b5', b6, gB, ho]
            refine st_mk (I := endI cur) 0 (by decide) ⟨by decide, by simp -dsimp -implicitDefEqProofs (maxSteps := 1000000) only [go_sem, ↓reduceIte, Nat.reduceAdd, Nat.reduceSub, Nat.reduceMul, Nat.reduceLT, Nat.reduceLeDiff, Nat.reduceEqDiff, Nat.reduceBEq, Nat.reduceBNe, Int.reduceToNat, Int.reduceLT, Int.reduceLE, Int.reduceNeg, reduceCtorEq, Int.reduceEq, Int.reduceNe, b2], by simp -dsimp -implicitDefEqProofs (maxSteps := 1000000) only [go_sem, ↓reduceIte, Nat.reduceAdd, Nat.reduceSub, Nat.reduceMul, Nat.reduceLT, Nat.reduceLeDiff, Nat.reduceEqDiff, Nat.reduceBEq, Nat.reduceBNe, Int.reduceToNat, Int.reduceLT, Int.reduceLE, Int.reduceNeg, reduceCtorEq, Int.reduceEq, Int.reduceNe, b3], by simp -dsimp -implicitDefEqProofs (maxSteps := 1000000) only [go_sem, ↓reduceIte, Nat.reduceAdd, Nat.reduceSub, Nat.reduceMul, Nat.reduceLT, Nat.reduceLeDiff, Nat.reduceEqDiff, Nat.reduceBEq, Nat.reduceBNe, Int.reduceToNat, Int.reduceLT, Int.reduceLE, Int.reduceNeg, reduceCtorEq, Int.reduceEq, Int.reduceNe, b4], by simp -dsimp -implicitDefEqProofs (maxSteps := 1000000) only [go_sem, ↓reduceIte, Nat.reduceAdd, Nat.reduceSub, Nat.reduceMul, Nat.reduceLT, Nat.reduceLeDiff, Nat.reduceEqDiff, Nat.reduceBEq, Nat.reduceBNe, Int.reduceToNat, Int.reduceLT, Int.reduceLE, Int.reduceNeg, reduceCtorEq, Int.reduceEq, Int.reduceNe]; rfl, ?_⟩
            have : s3A cur = s3B (s3A cur) := by
              rw [eB]
              have : (⟨b.x, b.y, opnW b.c, b.l⟩ : Kn) = b := by unfold opnW; rw [if_neg ho]
              rw [this, hb, setGetD]
            show _ = [(0, (⟨12, (s3B (s3A cur)).map KnC⟩ : Blk))]
            rw [← this]
        | 0, _ =>
          have b5' : tt 134 = I 2 := b5
          have b6 : s3I cur (2 - 0) = s3B (s3A cur) := rfl
          simp -dsimp -implicitDefEqProofs (maxSteps := 1000000) only [go_sem, ↓reduceIte, Nat.reduceAdd, Nat.reduceSub, Nat.reduceMul, Nat.reduceLT, Nat.reduceLeDiff, Nat.reduceEqDiff, Nat.reduceBEq, Nat.reduceBNe, Int.reduceToNat, Int.reduceLT, Int.reduceLE, Int.reduceNeg, reduceCtorEq, Int.reduceEq, Int.reduceNe, b2, b3, b4, b5', b6]
          have hs3 : s3 false cur = s3B (s3A cur) := rfl
          rw [hs3, hB]
          exact FinM.mk0 [] (by simp -dsimp -implicitDefEqProofs (maxSteps := 1000000) only [go_sem, ↓reduceIte, Nat.reduceAdd, Nat.reduceSub, Nat.reduceMul, Nat.reduceLT, Nat.reduceLeDiff, Nat.reduceEqDiff, Nat.reduceBEq, Nat.reduceBNe, Int.reduceToNat, Int.reduceLT, Int.reduceLE, Int.reduceNeg, reduceCtorEq, Int.reduceEq, Int.reduceNe]) (by simp -dsimp -implicitDefEqProofs (maxSteps := 1000000) only [go_sem, ↓reduceIte, Nat.reduceAdd, Nat.reduceSub, Nat.reduceMul, Nat.reduceLT, Nat.reduceLeDiff, Nat.reduceEqDiff, Nat.reduceBEq, Nat.reduceBNe, Int.reduceToNat, Int.reduceLT, Int.reduceLE, Int.reduceNeg, reduceCtorEq, Int.reduceEq, Int.reduceNe]; exact .inl (renL_cl rfl ((clKnsL _).2 trivial))) (by simp) (by simp [sg])
end

section
set_option maxRecDepth 20000
attribute [local go_sem] eqk27' clKnsL clKns
/-- A segment that is worked on. -/
structure Ar where
  fx : Int
  fy : Int
  tx : Int
  ty : Int
  a : Sd
  b : Sd
  far : Int
  dir : Int
  u : Int
  v : Int
  st : Bool
abbrev ArC (r : Ar) : List AV := [I r.fx, I r.fy, I r.tx, I r.ty, I r.a.op, I r.a.t, I r.a.v, I r.a.x, I r.a.y, I r.b.op, I r.b.t, I r.b.v, I r.b.x, I r.b.y, I r.far, I r.dir, I r.u, I r.v, Bo r.st]
abbrev ArA (r : Ar) : AV := .g (ArC r)
def zA : Ar := ⟨0, 0, 0, 0, zS, zS, 0, 0, 0, 0, false⟩
theorem clAr (k : Ar) : ∀ s ∈ ArC k, Cl s := by
  intro s hs
  simp at hs
  rcases hs with rfl | rfl | rfl | rfl | rfl | rfl | rfl | rfl | rfl | rfl | rfl | rfl | rfl | rfl | rfl | rfl | rfl | rfl | rfl <;> exact .v _
theorem clArsL (l : List Ar) : (∀ c ∈ l.map ArC, ∀ s ∈ c, Cl s) ↔ True := by
  simp only [iff_true]
  intro c hc s hs
  obtain ⟨k, _, rfl⟩ := List.mem_map.1 hc
  exact clAr k s hs
theorem oneAr (l : List Ar) : ∀ c ∈ l.map ArC, ∀ x ∈ c, oneA x = true := by
  intro c hc x hx
  obtain ⟨k, _, rfl⟩ := List.mem_map.1 hc
  simp at hx
  rcases hx with rfl | rfl | rfl | rfl | rfl | rfl | rfl | rfl | rfl | rfl | rfl | rfl | rfl | rfl | rfl | rfl | rfl | rfl | rfl <;> rfl
attribute [local go_sem] clArsL
theorem getA {l : List Ar} {i : Nat} (h : i < l.length) : l[i]? = some (l.getD i zA) := by simp [List.getD, h]
theorem getAr {l : List Ar} {i : Nat} (h : i < l.length) : (l.map ArC)[i]? = some (ArC (l.getD i zA)) := by rw [List.getElem?_map, getA h]; rfl
def arcW (l : List Kn) (k : Nat) : Ar :=
  if (l.getD k zK).l.op = 3 then ⟨(l.getD k zK).x, (l.getD k zK).y, (l.getD ((k + 1) % l.length) zK).x, (l.getD ((k + 1) % l.length) zK).y, (l.getD k zK).l, (l.getD ((k + 1) % l.length) zK).c, 0, 0, 0, 0, false⟩
  else ⟨(l.getD k zK).x, (l.getD k zK).y, (l.getD ((k + 1) % l.length) zK).x, (l.getD ((k + 1) % l.length) zK).y, (l.getD k zK).l, (l.getD ((k + 1) % l.length) zK).c,
    hypW ((l.getD ((k + 1) % l.length) zK).x - (l.getD k zK).x) ((l.getD ((k + 1) % l.length) zK).y - (l.getD k zK).y), argW ((l.getD ((k + 1) % l.length) zK).x - (l.getD k zK).x) ((l.getD ((k + 1) % l.length) zK).y - (l.getD k zK).y), 0, 0, false⟩
def arcsW (l : List Kn) (c : Bool) : List Ar := (List.range (segs l c)).map (arcW l)
def arcP (l : List Kn) (n i : Nat) : List Ar := (List.range n).map fun j => if j < i then arcW l j else zA
theorem arcP_0 (l : List Kn) (n : Nat) : arcP l n 0 = List.replicate n zA := by
  unfold arcP
  refine List.ext_getElem? fun j => ?_
  rw [List.getElem?_map, List.getElem?_replicate]
  split
  · rename_i h; rw [List.getElem?_range h]; rfl
  · rename_i h; rw [List.getElem?_eq_none (by simp; omega)]; rfl
theorem arcP_n (l : List Kn) (n : Nat) : arcP l n n = (List.range n).map (arcW l) := by
  unfold arcP
  refine List.map_congr_left fun j hj => ?_
  rw [if_pos (List.mem_range.1 hj)]
theorem arcP_len (l : List Kn) (n i : Nat) : (arcP l n i).length = n := by simp [arcP]
theorem arcP_set (l : List Kn) (n i : Nat) (L : List AV) (hL : L = ArC (arcW l i)) : ((arcP l n i).map ArC).set i L = (arcP l n (i + 1)).map ArC := by
  subst hL
  rw [← List.map_set]
  congr 1
  unfold arcP
  refine List.ext_getElem? fun j => ?_
  rw [List.getElem?_set]
  by_cases hj : j < n
  · simp only [List.length_map, List.length_range, List.getElem?_map, List.getElem?_range hj, Option.map_some]
    by_cases hij : i = j
    · subst hij
      rw [if_pos rfl, if_pos hj, if_pos (by omega)]
    · rw [if_neg hij]
      by_cases h2 : j < i
      · rw [if_pos h2, if_pos (by omega)]
      · rw [if_neg h2, if_neg (by omega)]
  · simp only [List.length_map, List.length_range]
    rw [List.getElem?_eq_none (by simp; omega), List.getElem?_eq_none (by simp; omega)]
    split
    · rw [if_neg (by omega)]
    · rfl
set_option maxHeartbeats 4000000 in
theorem arcs25 (l : List Kn) (c : Bool) (hl1 : 1 ≤ l.length) (hl2 : l.length ≤ 201) (hb : bKs l) : NFun Try.prog 25 [Kns l, Bo c] 19 ((arcsW l c).map ArC) := by
  have hsl := segs_le (l := l) (c := c)
  refine MFun.toN ?_ ((clArsL _).2 trivial)
  refine MFun.intro 400 [4] mixed Try.func25 (by kernel_rfl) rfl (by rw [Try.results25]; rfl) (Nat.le_of_ble_eq_true rfl) ?_; rw [Try.ntmps25]
  simp -dsimp -implicitDefEqProofs (maxSteps := 1000000) only [go_sem, ↓reduceIte, Nat.reduceAdd, Nat.reduceSub, Nat.reduceMul, Nat.reduceLT, Nat.reduceLeDiff, Nat.reduceEqDiff, Nat.reduceBEq, Nat.reduceBNe, Int.reduceToNat, Int.reduceLT, Int.reduceLE, Int.reduceNeg, reduceCtorEq, Int.reduceEq, Int.reduceNe]
  refine AtFn.keep (many31 l c hl1 (by omega)) ?_
  obtain ⟨n, hn⟩ : ∃ n, n = segs l c := ⟨_, rfl⟩
  have hn2 : ((n : Nat) : Int) ≤ 274877906944 := by omega
  have hw : arcsW l c = arcP l n n := by rw [arcP_n, hn]; rfl
  rw [hw, ← hn]
  simp -dsimp -implicitDefEqProofs (maxSteps := 1000000) only [go_sem, ↓reduceIte, Nat.reduceAdd, Nat.reduceSub, Nat.reduceMul, Nat.reduceLT, Nat.reduceLeDiff, Nat.reduceEqDiff, Nat.reduceBEq, Nat.reduceBNe, Int.reduceToNat, Int.reduceLT, Int.reduceLE, Int.reduceNeg, reduceCtorEq, Int.reduceEq, Int.reduceNe, Int.natCast_nonneg, Int.le_refl, hn2, Int.toNat_natCast, List.length_replicate]
  refine ⟨{i : Nat // i ≤ n}, fun i => ⟨74, tl [(0, Kns l), (1, Bo c), (5, .sl 0 0 n), (16, I (n : Nat)), (17, I i.1)], [(0, ⟨19, (arcP l n i.1).map ArC⟩)], 1, ⟨[tl []], some (.mp none)⟩⟩, fun i => n - i.1,
    ⟨⟨0, by omega⟩, Le.tl (Ls := [[]]) [] (by simp -dsimp -implicitDefEqProofs (maxSteps := 1000000) only [go_sem, ↓reduceIte, Nat.reduceAdd, Nat.reduceSub, Nat.reduceMul, Nat.reduceLT, Nat.reduceLeDiff, Nat.reduceEqDiff, Nat.reduceBEq, Nat.reduceBNe, Int.reduceToNat, Int.reduceLT, Int.reduceLE, Int.reduceNeg, reduceCtorEq, Int.reduceEq, Int.reduceNe]) ?_ (by simp) (by simp [sg]) ⟨by simp -dsimp -implicitDefEqProofs (maxSteps := 1000000) only [go_sem, ↓reduceIte, Nat.reduceAdd, Nat.reduceSub, Nat.reduceMul, Nat.reduceLT, Nat.reduceLeDiff, Nat.reduceEqDiff, Nat.reduceBEq, Nat.reduceBNe, Int.reduceToNat, Int.reduceLT, Int.reduceLE, Int.reduceNeg, reduceCtorEq, Int.reduceEq, Int.reduceNe], trivial⟩⟩, fun i => ?_⟩
  · simp -dsimp -implicitDefEqProofs (maxSteps := 1000000) only [go_sem, ↓reduceIte, Nat.reduceAdd, Nat.reduceSub, Nat.reduceMul, Nat.reduceLT, Nat.reduceLeDiff, Nat.reduceEqDiff, Nat.reduceBEq, Nat.reduceBNe, Int.reduceToNat, Int.reduceLT, Int.reduceLE, Int.reduceNeg, reduceCtorEq, Int.reduceEq, Int.reduceNe, arcP_0]
    exact renL_cl2 (by rw [List.map_replicate]; rfl) ((clArsL _).2 trivial)
  obtain ⟨i, hi⟩ := i
  simp -dsimp -implicitDefEqProofs (maxSteps := 1000000) only [go_sem, ↓reduceIte, Nat.reduceAdd, Nat.reduceSub, Nat.reduceMul, Nat.reduceLT, Nat.reduceLeDiff, Nat.reduceEqDiff, Nat.reduceBEq, Nat.reduceBNe, Int.reduceToNat, Int.reduceLT, Int.reduceLE, Int.reduceNeg, reduceCtorEq, Int.reduceEq, Int.reduceNe, List.length_map]
  refine ⟨fun h => ?_, fun hout => ?_⟩
  · have hlt : i < n := by omega
    have hil : i < l.length := by omega
    have hjl : (i + 1) % l.length < l.length := Nat.mod_lt _ (by omega)
    have e3 : wr ((i : Int) + 1) = ((i + 1 : Nat) : Int) := by rw [wr_in] <;> omega
    have e4 : (((i + 1 : Nat) : Int)).tmod (l.length : Int) = (((i + 1) % l.length : Nat) : Int) := tmodN _ _
    have e5 : wr (((i + 1) % l.length : Nat) : Int) = (((i + 1) % l.length : Nat) : Int) := wr_in (by omega) (by omega)
    have hgi := getKn (l := l) (i := i) (by omega)
    have hgj := getKn hjl
    have haw : arcW l i = arcW l i := rfl
    conv at haw => rhs; unfold arcW
    have hset := fun L h => arcP_set l n i L h
    obtain ⟨z, hz⟩ : ∃ z, z = l.getD i zK := ⟨_, rfl⟩
    obtain ⟨j, hj⟩ : ∃ j, j = (i + 1) % l.length := ⟨_, rfl⟩
    obtain ⟨w, hw⟩ : ∃ w, w = l.getD j zK := ⟨_, rfl⟩
    have hbz : bK z := by rw [hz]; exact hb i hil
    have hbw : bK w := by rw [hw]; exact hb j (by omega)
    rw [← hj] at hjl hgj e4 e5 haw
    rw [← hz] at hgi haw
    rw [← hw] at hgj haw
    have hbz1 := inP_bd hbz.1
    have hbw1 := inP_bd hbw.1
    simp only at hbz1 hbw1
    have m1 : wr (w.x - z.x) = w.x - z.x := wr_in (by omega) (by omega)
    have m2 : wr (w.y - z.y) = w.y - z.y := wr_in (by omega) (by omega)
    have mi := minus40 (w.x, w.y) (z.x, z.y)
    simp only [m1, m2] at mi
    have hy := hypot41 (w.x - z.x) (w.y - z.y) (by omega) (by omega)
    have ag := arg42 (w.x - z.x) (w.y - z.y) (by omega) (by omega)
    have hn0 : ¬ ((l.length : Nat) : Int) = 0 := by omega
    have c1 : (i : Int) < ((l.length : Nat) : Int) := by omega
    have c2 : (j : Int) < ((l.length : Nat) : Int) := by omega
    have c3 : (i : Int) < ((n : Nat) : Int) := by omega
    have gsl : ∀ x, (arcP l n i)[i]? = some x → True := fun _ _ => trivial
    have gp := getAr (l := arcP l n i) (i := i) (by rw [arcP_len]; exact hlt)
    simp -dsimp -implicitDefEqProofs (maxSteps := 1000000) only [go_sem, ↓reduceIte, Nat.reduceAdd, Nat.reduceSub, Nat.reduceMul, Nat.reduceLT, Nat.reduceLeDiff, Nat.reduceEqDiff, Nat.reduceBEq, Nat.reduceBNe, Int.reduceToNat, Int.reduceLT, Int.reduceLE, Int.reduceNeg, reduceCtorEq, Int.reduceEq, Int.reduceNe, e3, e4, e5, hn0, c1, c2, c3, Int.toNat_natCast, Int.natCast_nonneg, hgi, hgj, Nat.zero_add]
    refine AtCode.drawB 14 [([], []), ([], []), ([0, 1], []), ([0, 1, 2], []), ([], [13]), ([], [13]), ([5], [13]), ([], [13]), ([7], [13]), ([5, 6, 7, 8], [13]), ([4, 5, 6, 7, 8, 9], [13]), ([4, 5, 6, 7, 8, 9, 10], [13]), ([], []), ([], []), ([0, 1, 2, 3, 12, 13], []), ([0, 1, 2, 3, 4, 5, 6, 7, 8, 9, 10, 11, 12, 13, 14], [])] [false, true] (by kernel_rfl) ?_
    simp -dsimp -implicitDefEqProofs (maxSteps := 1000000) only [go_sem, ↓reduceIte, Nat.reduceAdd, Nat.reduceSub, Nat.reduceMul, Nat.reduceLT, Nat.reduceLeDiff, Nat.reduceEqDiff, Nat.reduceBEq, Nat.reduceBNe, Int.reduceToNat, Int.reduceLT, Int.reduceLE, Int.reduceNeg, reduceCtorEq, Int.reduceEq, Int.reduceNe, e3, e4, e5, hn0, c1, c2, c3, Int.toNat_natCast, Int.natCast_nonneg, hgi, hgj, Nat.zero_add, List.length_map]
    refine ⟨by kernel_rfl, ?_⟩
    by_cases ho : z.l.op = 3
    · rw [if_pos ho] at haw
      simp -dsimp -implicitDefEqProofs (maxSteps := 1000000) only [go_sem, ↓reduceIte, Nat.reduceAdd, Nat.reduceSub, Nat.reduceMul, Nat.reduceLT, Nat.reduceLeDiff, Nat.reduceEqDiff, Nat.reduceBEq, Nat.reduceBNe, Int.reduceToNat, Int.reduceLT, Int.reduceLE, Int.reduceNeg, reduceCtorEq, Int.reduceEq, Int.reduceNe, ho, c3, Int.toNat_natCast, Int.natCast_nonneg, Nat.zero_add, gp, true_implies]
      refine ⟨⟨i + 1, by omega⟩, by show n - (i + 1) < n - i; omega, Le.tl (Ls := [[]]) [] (by simp -dsimp -implicitDefEqProofs (maxSteps := 1000000) only [go_sem, ↓reduceIte, Nat.reduceAdd, Nat.reduceSub, Nat.reduceMul, Nat.reduceLT, Nat.reduceLeDiff, Nat.reduceEqDiff, Nat.reduceBEq, Nat.reduceBNe, Int.reduceToNat, Int.reduceLT, Int.reduceLE, Int.reduceNeg, reduceCtorEq, Int.reduceEq, Int.reduceNe, e3]) ?_ (by simp) (by simp [sg]) ⟨by simp -dsimp -implicitDefEqProofs (maxSteps := 1000000) only [go_sem, ↓reduceIte, Nat.reduceAdd, Nat.reduceSub, Nat.reduceMul, Nat.reduceLT, Nat.reduceLeDiff, Nat.reduceEqDiff, Nat.reduceBEq, Nat.reduceBNe, Int.reduceToNat, Int.reduceLT, Int.reduceLE, Int.reduceNeg, reduceCtorEq, Int.reduceEq, Int.reduceNe], trivial⟩⟩
      simp -dsimp -implicitDefEqProofs (maxSteps := 1000000) only [go_sem, ↓reduceIte, Nat.reduceAdd, Nat.reduceSub, Nat.reduceMul, Nat.reduceLT, Nat.reduceLeDiff, Nat.reduceEqDiff, Nat.reduceBEq, Nat.reduceBNe, Int.reduceToNat, Int.reduceLT, Int.reduceLE, Int.reduceNeg, reduceCtorEq, Int.reduceEq, Int.reduceNe]
      refine renL_cl2 (hset _ ?_) ((clArsL _).2 trivial)
      rw [haw]
      try (simp only [ArC, ho]; done)
    · rw [if_neg ho] at haw
      simp -dsimp -implicitDefEqProofs (maxSteps := 1000000) only [go_sem, ↓reduceIte, Nat.reduceAdd, Nat.reduceSub, Nat.reduceMul, Nat.reduceLT, Nat.reduceLeDiff, Nat.reduceEqDiff, Nat.reduceBEq, Nat.reduceBNe, Int.reduceToNat, Int.reduceLT, Int.reduceLE, Int.reduceNeg, reduceCtorEq, Int.reduceEq, Int.reduceNe, ho, c3, Int.toNat_natCast, Int.natCast_nonneg, Nat.zero_add, gp, true_implies]
      refine AtFn.pure0 mi ?_
      simp -dsimp -implicitDefEqProofs (maxSteps := 1000000) only [go_sem, ↓reduceIte, Nat.reduceAdd, Nat.reduceSub, Nat.reduceMul, Nat.reduceLT, Nat.reduceLeDiff, Nat.reduceEqDiff, Nat.reduceBEq, Nat.reduceBNe, Int.reduceToNat, Int.reduceLT, Int.reduceLE, Int.reduceNeg, reduceCtorEq, Int.reduceEq, Int.reduceNe]
      refine AtFn.pure0 hy ?_
      simp -dsimp -implicitDefEqProofs (maxSteps := 1000000) only [go_sem, ↓reduceIte, Nat.reduceAdd, Nat.reduceSub, Nat.reduceMul, Nat.reduceLT, Nat.reduceLeDiff, Nat.reduceEqDiff, Nat.reduceBEq, Nat.reduceBNe, Int.reduceToNat, Int.reduceLT, Int.reduceLE, Int.reduceNeg, reduceCtorEq, Int.reduceEq, Int.reduceNe]
      refine AtFn.pure0 ag ?_
      simp -dsimp -implicitDefEqProofs (maxSteps := 1000000) only [go_sem, ↓reduceIte, Nat.reduceAdd, Nat.reduceSub, Nat.reduceMul, Nat.reduceLT, Nat.reduceLeDiff, Nat.reduceEqDiff, Nat.reduceBEq, Nat.reduceBNe, Int.reduceToNat, Int.reduceLT, Int.reduceLE, Int.reduceNeg, reduceCtorEq, Int.reduceEq, Int.reduceNe, c3, Int.toNat_natCast, Int.natCast_nonneg, Nat.zero_add, gp]
      refine ⟨⟨i + 1, by omega⟩, by show n - (i + 1) < n - i; omega, Le.tl (Ls := [[]]) [] (by simp -dsimp -implicitDefEqProofs (maxSteps := 1000000) only [go_sem, ↓reduceIte, Nat.reduceAdd, Nat.reduceSub, Nat.reduceMul, Nat.reduceLT, Nat.reduceLeDiff, Nat.reduceEqDiff, Nat.reduceBEq, Nat.reduceBNe, Int.reduceToNat, Int.reduceLT, Int.reduceLE, Int.reduceNeg, reduceCtorEq, Int.reduceEq, Int.reduceNe, e3]) ?_ (by simp) (by simp [sg]) ⟨by simp -dsimp -implicitDefEqProofs (maxSteps := 1000000) only [go_sem, ↓reduceIte, Nat.reduceAdd, Nat.reduceSub, Nat.reduceMul, Nat.reduceLT, Nat.reduceLeDiff, Nat.reduceEqDiff, Nat.reduceBEq, Nat.reduceBNe, Int.reduceToNat, Int.reduceLT, Int.reduceLE, Int.reduceNeg, reduceCtorEq, Int.reduceEq, Int.reduceNe], trivial⟩⟩
      simp -dsimp -implicitDefEqProofs (maxSteps := 1000000) only [go_sem, ↓reduceIte, Nat.reduceAdd, Nat.reduceSub, Nat.reduceMul, Nat.reduceLT, Nat.reduceLeDiff, Nat.reduceEqDiff, Nat.reduceBEq, Nat.reduceBNe, Int.reduceToNat, Int.reduceLT, Int.reduceLE, Int.reduceNeg, reduceCtorEq, Int.reduceEq, Int.reduceNe]
      refine renL_cl2 (hset _ ?_) ((clArsL _).2 trivial)
      rw [haw]
      try (simp only [ArC, ho]; done)
  · have : i = n := by omega
    subst this
    rw [arcP_len]
    exact FinM.mk0 [] (by simp -dsimp -implicitDefEqProofs (maxSteps := 1000000) only [go_sem, ↓reduceIte, Nat.reduceAdd, Nat.reduceSub, Nat.reduceMul, Nat.reduceLT, Nat.reduceLeDiff, Nat.reduceEqDiff, Nat.reduceBEq, Nat.reduceBNe, Int.reduceToNat, Int.reduceLT, Int.reduceLE, Int.reduceNeg, reduceCtorEq, Int.reduceEq, Int.reduceNe]) (by simp -dsimp -implicitDefEqProofs (maxSteps := 1000000) only [go_sem, ↓reduceIte, Nat.reduceAdd, Nat.reduceSub, Nat.reduceMul, Nat.reduceLT, Nat.reduceLeDiff, Nat.reduceEqDiff, Nat.reduceBEq, Nat.reduceBNe, Int.reduceToNat, Int.reduceLT, Int.reduceLE, Int.reduceNeg, reduceCtorEq, Int.reduceEq, Int.reduceNe]; exact renL_cl rfl ((clArsL _).2 trivial)) (by simp) (by simp [sg])
end

section
set_option maxRecDepth 20000
attribute [local go_sem] eqk27' clKnsL clKns clArsL
theorem third49 (n t : Int) (hn : -536870910 ≤ n ∧ n ≤ 536870910) (ht : 49152 ≤ t) (ht2 : t ≤ 268435455) : PFun Try.prog 49 [I n, I t] (I (rnd (n * 65536) (3 * t))) := by
  have w1 : wr (n * 65536) = n * 65536 := wr_in (by omega) (by omega)
  have w2 : wr (3 * t) = 3 * t := wr_in (by omega) (by omega)
  have hr := round50p (n * 65536) (3 * t) (by omega) (by omega) (by omega)
  refine PFun.intro 400 mixed Try.func49 (by kernel_rfl) rfl (by first | exact .v _ | (simp [Cl_v, Cl_t, Cl_g, Cl_fn, Cl_rp, Cl_ro]; done) | (simp [Cl_v, Cl_t, Cl_g, Cl_fn, Cl_rp, Cl_ro, or_imp, forall_and]; done) | (split <;> simp [Cl_v, Cl_t, Cl_g, Cl_fn, Cl_rp, Cl_ro])) (Nat.le_of_ble_eq_true rfl) ?_; rw [Try.ntmps49, Try.results49]
  simp -dsimp -implicitDefEqProofs (maxSteps := 1000000) only [go_sem, ↓reduceIte, Nat.reduceAdd, Nat.reduceSub, Nat.reduceMul, Nat.reduceLT, Nat.reduceLeDiff, Nat.reduceEqDiff, Nat.reduceBEq, Nat.reduceBNe, Int.reduceToNat, Int.reduceLT, Int.reduceLE, Int.reduceNeg, reduceCtorEq, Int.reduceEq, Int.reduceNe, w1, w2]
  refine AtFn.pure0 hr ?_
  simp -dsimp -implicitDefEqProofs (maxSteps := 1000000) only [go_sem, ↓reduceIte, Nat.reduceAdd, Nat.reduceSub, Nat.reduceMul, Nat.reduceLT, Nat.reduceLeDiff, Nat.reduceEqDiff, Nat.reduceBEq, Nat.reduceBNe, Int.reduceToNat, Int.reduceLT, Int.reduceLE, Int.reduceNeg, reduceCtorEq, Int.reduceEq, Int.reduceNe]
def stB (r : Ar) : Int × Int := (r.fx + rnd ((r.tx - r.fx) * 65536) (3 * r.a.t), r.fy + rnd ((r.ty - r.fy) * 65536) (3 * r.a.t))
def stC (r : Ar) : Int × Int := (r.tx - rnd ((r.tx - r.fx) * 65536) (3 * r.b.t), r.ty - rnd ((r.ty - r.fy) * 65536) (3 * r.b.t))
/-- The control points of a segment that was worked on. -/
def ctlA (r : Ar) : AV :=
  if r.a.op = 3 then .t [Pt (r.a.x, r.a.y), Pt (r.b.x, r.b.y), I 0]
  else if r.st then ptR (stB r) (stC r) else alongR (r.fx, r.fy) (r.tx, r.ty) r.u r.v r.a.t r.b.t
theorem ptR_t (b c : Int × Int) : ∃ p q e, ptR b c = .t [Pt p, Pt q, I e] := by
  unfold ptR
  split <;> exact ⟨_, _, _, rfl⟩
/-- What a segment must be for its control points. -/
structure ArOk (r : Ar) : Prop where
  f : inP (r.fx, r.fy) = true
  t : inP (r.tx, r.ty) = true
  a : r.a.op = 3 ∨ (49152 ≤ r.a.t ∧ r.a.t ≤ 268435455 ∧ 49152 ≤ r.b.t ∧ r.b.t ≤ 268435455)
  u : -9223372036854775808 ≤ r.u ∧ r.u ≤ 9223372036854775807
  v : -9223372036854775808 ≤ r.v ∧ r.v ≤ 9223372036854775807
set_option maxHeartbeats 2000000 in
theorem controls28 (r : Ar) (h : ArOk r) : PFun Try.prog 28 [ArA r] (ctlA r) := by
  obtain ⟨hf, ht, ha, hu, hv⟩ := h
  by_cases ho : r.a.op = 3
  · have e : ctlA r = .t [Pt (r.a.x, r.a.y), Pt (r.b.x, r.b.y), I 0] := by unfold ctlA; rw [if_pos ho]
    rw [e]
    refine PFun.intro 400 mixed Try.func28 (by kernel_rfl) rfl (by first | exact .v _ | (simp [Cl_v, Cl_t, Cl_g, Cl_fn, Cl_rp, Cl_ro]; done) | (simp [Cl_v, Cl_t, Cl_g, Cl_fn, Cl_rp, Cl_ro, or_imp, forall_and]; done) | (split <;> simp [Cl_v, Cl_t, Cl_g, Cl_fn, Cl_rp, Cl_ro])) (Nat.le_of_ble_eq_true rfl) ?_; rw [Try.ntmps28, Try.results28]
    simp -dsimp -implicitDefEqProofs (maxSteps := 1000000) only [go_sem, ↓reduceIte, Nat.reduceAdd, Nat.reduceSub, Nat.reduceMul, Nat.reduceLT, Nat.reduceLeDiff, Nat.reduceEqDiff, Nat.reduceBEq, Nat.reduceBNe, Int.reduceToNat, Int.reduceLT, Int.reduceLE, Int.reduceNeg, reduceCtorEq, Int.reduceEq, Int.reduceNe, ho]
    refine AtCode.drawB 6 [([], []), ([0], []), ([0, 1], []), ([], [1]), ([3], [1]), ([3, 4], [1]), ([0, 1, 2], []), ([0, 1, 2, 3, 4, 5, 6], []), ([0, 1, 2, 3, 4, 5, 6, 7], [])] [false, true, true] (by kernel_rfl) ?_
    simp -dsimp -implicitDefEqProofs (maxSteps := 1000000) only [go_sem, ↓reduceIte, Nat.reduceAdd, Nat.reduceSub, Nat.reduceMul, Nat.reduceLT, Nat.reduceLeDiff, Nat.reduceEqDiff, Nat.reduceBEq, Nat.reduceBNe, Int.reduceToNat, Int.reduceLT, Int.reduceLE, Int.reduceNeg, reduceCtorEq, Int.reduceEq, Int.reduceNe]
    kernel_rfl
  have ha : 49152 ≤ r.a.t ∧ r.a.t ≤ 268435455 ∧ 49152 ≤ r.b.t ∧ r.b.t ≤ 268435455 := ha.resolve_left ho
  cases hs : r.st
  · have e : ctlA r = alongR (r.fx, r.fy) (r.tx, r.ty) r.u r.v r.a.t r.b.t := by unfold ctlA; rw [if_neg ho, hs]; rfl
    have al := along38 (r.fx, r.fy) (r.tx, r.ty) r.u r.v r.a.t r.b.t hu hv ⟨hf, ht, ha.1, ha.2.1, ha.2.2.1, ha.2.2.2⟩
    obtain ⟨p, q, e1, he⟩ := along_t (r.fx, r.fy) (r.tx, r.ty) r.u r.v r.a.t r.b.t
    rw [e, he]
    rw [he] at al
    refine PFun.intro 400 mixed Try.func28 (by kernel_rfl) rfl (by first | exact .v _ | (simp [Cl_v, Cl_t, Cl_g, Cl_fn, Cl_rp, Cl_ro]; done) | (simp [Cl_v, Cl_t, Cl_g, Cl_fn, Cl_rp, Cl_ro, or_imp, forall_and]; done) | (split <;> simp [Cl_v, Cl_t, Cl_g, Cl_fn, Cl_rp, Cl_ro])) (Nat.le_of_ble_eq_true rfl) ?_; rw [Try.ntmps28, Try.results28]
    simp -dsimp -implicitDefEqProofs (maxSteps := 1000000) only [go_sem, ↓reduceIte, Nat.reduceAdd, Nat.reduceSub, Nat.reduceMul, Nat.reduceLT, Nat.reduceLeDiff, Nat.reduceEqDiff, Nat.reduceBEq, Nat.reduceBNe, Int.reduceToNat, Int.reduceLT, Int.reduceLE, Int.reduceNeg, reduceCtorEq, Int.reduceEq, Int.reduceNe, ho, hs, true_implies]
    refine AtFn.pure0 al ?_
    simp -dsimp -implicitDefEqProofs (maxSteps := 1000000) only [go_sem, ↓reduceIte, Nat.reduceAdd, Nat.reduceSub, Nat.reduceMul, Nat.reduceLT, Nat.reduceLeDiff, Nat.reduceEqDiff, Nat.reduceBEq, Nat.reduceBNe, Int.reduceToNat, Int.reduceLT, Int.reduceLE, Int.reduceNeg, reduceCtorEq, Int.reduceEq, Int.reduceNe]
  · have e : ctlA r = ptR (stB r) (stC r) := by unfold ctlA; rw [if_neg ho, hs]; rfl
    have hf1 := inP_bd hf
    have ht1 := inP_bd ht
    simp only at hf1 ht1
    have mi := minus40 (r.tx, r.ty) (r.fx, r.fy)
    have w1 : wr (r.tx - r.fx) = r.tx - r.fx := wr_in (by omega) (by omega)
    have w2 : wr (r.ty - r.fy) = r.ty - r.fy := wr_in (by omega) (by omega)
    simp only [w1, w2] at mi
    obtain ⟨p, q, e1, he⟩ := ptR_t (stB r) (stC r)
    have pl := placed51 (stB r) (stC r)
    rw [e, he]
    rw [he] at pl
    unfold stB stC at pl
    have t1 := third49 (r.tx - r.fx) r.a.t (by omega) ha.1 ha.2.1
    have t2 := third49 (r.ty - r.fy) r.a.t (by omega) ha.1 ha.2.1
    have t3 := third49 (r.tx - r.fx) r.b.t (by omega) ha.2.2.1 ha.2.2.2
    have t4 := third49 (r.ty - r.fy) r.b.t (by omega) ha.2.2.1 ha.2.2.2
    have b1 := rnd_bd (p := (r.tx - r.fx) * 65536) (q := 3 * r.a.t) (by omega)
    have b2 := rnd_bd (p := (r.ty - r.fy) * 65536) (q := 3 * r.a.t) (by omega)
    have b3 := rnd_bd (p := (r.tx - r.fx) * 65536) (q := 3 * r.b.t) (by omega)
    have b4 := rnd_bd (p := (r.ty - r.fy) * 65536) (q := 3 * r.b.t) (by omega)
    have y1 : wr (r.fx + rnd ((r.tx - r.fx) * 65536) (3 * r.a.t)) = r.fx + rnd ((r.tx - r.fx) * 65536) (3 * r.a.t) := wr_in (by omega) (by omega)
    have y2 : wr (r.fy + rnd ((r.ty - r.fy) * 65536) (3 * r.a.t)) = r.fy + rnd ((r.ty - r.fy) * 65536) (3 * r.a.t) := wr_in (by omega) (by omega)
    have y3 : wr (r.tx - rnd ((r.tx - r.fx) * 65536) (3 * r.b.t)) = r.tx - rnd ((r.tx - r.fx) * 65536) (3 * r.b.t) := wr_in (by omega) (by omega)
    have y4 : wr (r.ty - rnd ((r.ty - r.fy) * 65536) (3 * r.b.t)) = r.ty - rnd ((r.ty - r.fy) * 65536) (3 * r.b.t) := wr_in (by omega) (by omega)
    refine PFun.intro 400 mixed Try.func28 (by kernel_rfl) rfl (by first | exact .v _ | (simp [Cl_v, Cl_t, Cl_g, Cl_fn, Cl_rp, Cl_ro]; done) | (simp [Cl_v, Cl_t, Cl_g, Cl_fn, Cl_rp, Cl_ro, or_imp, forall_and]; done) | (split <;> simp [Cl_v, Cl_t, Cl_g, Cl_fn, Cl_rp, Cl_ro])) (Nat.le_of_ble_eq_true rfl) ?_; rw [Try.ntmps28, Try.results28]
    simp -dsimp -implicitDefEqProofs (maxSteps := 1000000) only [go_sem, ↓reduceIte, Nat.reduceAdd, Nat.reduceSub, Nat.reduceMul, Nat.reduceLT, Nat.reduceLeDiff, Nat.reduceEqDiff, Nat.reduceBEq, Nat.reduceBNe, Int.reduceToNat, Int.reduceLT, Int.reduceLE, Int.reduceNeg, reduceCtorEq, Int.reduceEq, Int.reduceNe, ho, hs, true_implies]
    refine AtFn.pure0 mi ?_
    simp -dsimp -implicitDefEqProofs (maxSteps := 1000000) only [go_sem, ↓reduceIte, Nat.reduceAdd, Nat.reduceSub, Nat.reduceMul, Nat.reduceLT, Nat.reduceLeDiff, Nat.reduceEqDiff, Nat.reduceBEq, Nat.reduceBNe, Int.reduceToNat, Int.reduceLT, Int.reduceLE, Int.reduceNeg, reduceCtorEq, Int.reduceEq, Int.reduceNe]
    refine AtCode.draw 23 [([], []), ([0], []), ([0, 1], []), ([], []), ([], []), ([4], []), ([], []), ([6], []), ([6, 7], []), ([3, 4, 5, 6, 7, 8], []), ([0, 1, 2, 3, 4, 5, 6, 7, 8, 9], []), ([], []), ([11], []), ([11, 12], []), ([], []), ([], []), ([15], []), ([], []), ([17], []), ([17, 18], []), ([3, 4, 5, 6, 7, 8, 9, 14, 15, 16, 17, 18, 19], []), ([3, 4, 5, 6, 7, 8, 9, 11, 12, 13, 14, 15, 16, 17, 18, 19, 20], []), ([0, 1, 2, 3, 4, 5, 6, 7, 8, 9, 10, 11, 12, 13, 14, 15, 16, 17, 18, 19, 20, 21], []), ([0, 1, 2, 3, 4, 5, 6, 7, 8, 9, 10, 11, 12, 13, 14, 15, 16, 17, 18, 19, 20, 21, 22], [])] (by kernel_rfl) ?_
    simp -dsimp -implicitDefEqProofs (maxSteps := 1000000) only [go_sem, ↓reduceIte, Nat.reduceAdd, Nat.reduceSub, Nat.reduceMul, Nat.reduceLT, Nat.reduceLeDiff, Nat.reduceEqDiff, Nat.reduceBEq, Nat.reduceBNe, Int.reduceToNat, Int.reduceLT, Int.reduceLE, Int.reduceNeg, reduceCtorEq, Int.reduceEq, Int.reduceNe]
    refine QFn.use _ t1 (by simp -dsimp -implicitDefEqProofs (maxSteps := 1000000) only [go_sem, ↓reduceIte, Nat.reduceAdd, Nat.reduceSub, Nat.reduceMul, Nat.reduceLT, Nat.reduceLeDiff, Nat.reduceEqDiff, Nat.reduceBEq, Nat.reduceBNe, Int.reduceToNat, Int.reduceLT, Int.reduceLE, Int.reduceNeg, reduceCtorEq, Int.reduceEq, Int.reduceNe]) ?_
    simp -dsimp -implicitDefEqProofs (maxSteps := 1000000) only [go_sem, ↓reduceIte, Nat.reduceAdd, Nat.reduceSub, Nat.reduceMul, Nat.reduceLT, Nat.reduceLeDiff, Nat.reduceEqDiff, Nat.reduceBEq, Nat.reduceBNe, Int.reduceToNat, Int.reduceLT, Int.reduceLE, Int.reduceNeg, reduceCtorEq, Int.reduceEq, Int.reduceNe, y1]
    refine QFn.use _ t2 (by simp -dsimp -implicitDefEqProofs (maxSteps := 1000000) only [go_sem, ↓reduceIte, Nat.reduceAdd, Nat.reduceSub, Nat.reduceMul, Nat.reduceLT, Nat.reduceLeDiff, Nat.reduceEqDiff, Nat.reduceBEq, Nat.reduceBNe, Int.reduceToNat, Int.reduceLT, Int.reduceLE, Int.reduceNeg, reduceCtorEq, Int.reduceEq, Int.reduceNe]) ?_
    simp -dsimp -implicitDefEqProofs (maxSteps := 1000000) only [go_sem, ↓reduceIte, Nat.reduceAdd, Nat.reduceSub, Nat.reduceMul, Nat.reduceLT, Nat.reduceLeDiff, Nat.reduceEqDiff, Nat.reduceBEq, Nat.reduceBNe, Int.reduceToNat, Int.reduceLT, Int.reduceLE, Int.reduceNeg, reduceCtorEq, Int.reduceEq, Int.reduceNe, y2]
    refine AtCode.draw 23 [([], []), ([0], []), ([0, 1], []), ([], []), ([], []), ([4], []), ([], []), ([6], []), ([6, 7], []), ([3, 4, 5, 6, 7, 8], []), ([0, 1, 2, 3, 4, 5, 6, 7, 8, 9], []), ([], []), ([11], []), ([11, 12], []), ([], []), ([], []), ([15], []), ([], []), ([17], []), ([17, 18], []), ([3, 4, 5, 6, 7, 8, 9, 14, 15, 16, 17, 18, 19], []), ([3, 4, 5, 6, 7, 8, 9, 11, 12, 13, 14, 15, 16, 17, 18, 19, 20], []), ([0, 1, 2, 3, 4, 5, 6, 7, 8, 9, 10, 11, 12, 13, 14, 15, 16, 17, 18, 19, 20, 21], []), ([0, 1, 2, 3, 4, 5, 6, 7, 8, 9, 10, 11, 12, 13, 14, 15, 16, 17, 18, 19, 20, 21, 22], [])] (by kernel_rfl) ?_
    simp -dsimp -implicitDefEqProofs (maxSteps := 1000000) only [go_sem, ↓reduceIte, Nat.reduceAdd, Nat.reduceSub, Nat.reduceMul, Nat.reduceLT, Nat.reduceLeDiff, Nat.reduceEqDiff, Nat.reduceBEq, Nat.reduceBNe, Int.reduceToNat, Int.reduceLT, Int.reduceLE, Int.reduceNeg, reduceCtorEq, Int.reduceEq, Int.reduceNe]
    refine QFn.use _ t3 (by simp -dsimp -implicitDefEqProofs (maxSteps := 1000000) only [go_sem, ↓reduceIte, Nat.reduceAdd, Nat.reduceSub, Nat.reduceMul, Nat.reduceLT, Nat.reduceLeDiff, Nat.reduceEqDiff, Nat.reduceBEq, Nat.reduceBNe, Int.reduceToNat, Int.reduceLT, Int.reduceLE, Int.reduceNeg, reduceCtorEq, Int.reduceEq, Int.reduceNe]) ?_
    simp -dsimp -implicitDefEqProofs (maxSteps := 1000000) only [go_sem, ↓reduceIte, Nat.reduceAdd, Nat.reduceSub, Nat.reduceMul, Nat.reduceLT, Nat.reduceLeDiff, Nat.reduceEqDiff, Nat.reduceBEq, Nat.reduceBNe, Int.reduceToNat, Int.reduceLT, Int.reduceLE, Int.reduceNeg, reduceCtorEq, Int.reduceEq, Int.reduceNe, y3]
    refine QFn.use _ t4 (by simp -dsimp -implicitDefEqProofs (maxSteps := 1000000) only [go_sem, ↓reduceIte, Nat.reduceAdd, Nat.reduceSub, Nat.reduceMul, Nat.reduceLT, Nat.reduceLeDiff, Nat.reduceEqDiff, Nat.reduceBEq, Nat.reduceBNe, Int.reduceToNat, Int.reduceLT, Int.reduceLE, Int.reduceNeg, reduceCtorEq, Int.reduceEq, Int.reduceNe]) ?_
    simp -dsimp -implicitDefEqProofs (maxSteps := 1000000) only [go_sem, ↓reduceIte, Nat.reduceAdd, Nat.reduceSub, Nat.reduceMul, Nat.reduceLT, Nat.reduceLeDiff, Nat.reduceEqDiff, Nat.reduceBEq, Nat.reduceBNe, Int.reduceToNat, Int.reduceLT, Int.reduceLE, Int.reduceNeg, reduceCtorEq, Int.reduceEq, Int.reduceNe, y4]
    refine AtFn.pure0 pl ?_
    simp -dsimp -implicitDefEqProofs (maxSteps := 1000000) only [go_sem, ↓reduceIte, Nat.reduceAdd, Nat.reduceSub, Nat.reduceMul, Nat.reduceLT, Nat.reduceLeDiff, Nat.reduceEqDiff, Nat.reduceBEq, Nat.reduceBNe, Int.reduceToNat, Int.reduceLT, Int.reduceLE, Int.reduceNeg, reduceCtorEq, Int.reduceEq, Int.reduceNe]
def goesW (x y : Ar) : Bool := decide (x.a.op ≠ 3) && (decide (y.a.op ≠ 3) && (decide (x.b.op = 0) && decide (y.a.op = 0)))
theorem goes45 (x y : Ar) : PFun Try.prog 45 [ArA x, ArA y] (Bo (goesW x y)) := by
  unfold goesW
  by_cases h1 : x.a.op = 3
  · refine PFun.intro 400 mixed Try.func45 (by kernel_rfl) rfl (by first | exact .v _ | (simp [Cl_v, Cl_t, Cl_g, Cl_fn, Cl_rp, Cl_ro]; done) | (simp [Cl_v, Cl_t, Cl_g, Cl_fn, Cl_rp, Cl_ro, or_imp, forall_and]; done) | (split <;> simp [Cl_v, Cl_t, Cl_g, Cl_fn, Cl_rp, Cl_ro])) (Nat.le_of_ble_eq_true rfl) ?_; rw [Try.ntmps45, Try.results45]
    simp -dsimp -implicitDefEqProofs (maxSteps := 1000000) only [go_sem, ↓reduceIte, Nat.reduceAdd, Nat.reduceSub, Nat.reduceMul, Nat.reduceLT, Nat.reduceLeDiff, Nat.reduceEqDiff, Nat.reduceBEq, Nat.reduceBNe, Int.reduceToNat, Int.reduceLT, Int.reduceLE, Int.reduceNeg, reduceCtorEq, Int.reduceEq, Int.reduceNe, h1]
  by_cases h2 : y.a.op = 3
  · refine PFun.intro 400 mixed Try.func45 (by kernel_rfl) rfl (by first | exact .v _ | (simp [Cl_v, Cl_t, Cl_g, Cl_fn, Cl_rp, Cl_ro]; done) | (simp [Cl_v, Cl_t, Cl_g, Cl_fn, Cl_rp, Cl_ro, or_imp, forall_and]; done) | (split <;> simp [Cl_v, Cl_t, Cl_g, Cl_fn, Cl_rp, Cl_ro])) (Nat.le_of_ble_eq_true rfl) ?_; rw [Try.ntmps45, Try.results45]
    simp -dsimp -implicitDefEqProofs (maxSteps := 1000000) only [go_sem, ↓reduceIte, Nat.reduceAdd, Nat.reduceSub, Nat.reduceMul, Nat.reduceLT, Nat.reduceLeDiff, Nat.reduceEqDiff, Nat.reduceBEq, Nat.reduceBNe, Int.reduceToNat, Int.reduceLT, Int.reduceLE, Int.reduceNeg, reduceCtorEq, Int.reduceEq, Int.reduceNe, h1, h2]
  by_cases h3 : x.b.op = 0
  · by_cases h4 : y.a.op = 0
    · refine PFun.intro 400 mixed Try.func45 (by kernel_rfl) rfl (by first | exact .v _ | (simp [Cl_v, Cl_t, Cl_g, Cl_fn, Cl_rp, Cl_ro]; done) | (simp [Cl_v, Cl_t, Cl_g, Cl_fn, Cl_rp, Cl_ro, or_imp, forall_and]; done) | (split <;> simp [Cl_v, Cl_t, Cl_g, Cl_fn, Cl_rp, Cl_ro])) (Nat.le_of_ble_eq_true rfl) ?_; rw [Try.ntmps45, Try.results45]
      simp -dsimp -implicitDefEqProofs (maxSteps := 1000000) only [go_sem, ↓reduceIte, Nat.reduceAdd, Nat.reduceSub, Nat.reduceMul, Nat.reduceLT, Nat.reduceLeDiff, Nat.reduceEqDiff, Nat.reduceBEq, Nat.reduceBNe, Int.reduceToNat, Int.reduceLT, Int.reduceLE, Int.reduceNeg, reduceCtorEq, Int.reduceEq, Int.reduceNe, h1, h2, h3, h4]
    · refine PFun.intro 400 mixed Try.func45 (by kernel_rfl) rfl (by first | exact .v _ | (simp [Cl_v, Cl_t, Cl_g, Cl_fn, Cl_rp, Cl_ro]; done) | (simp [Cl_v, Cl_t, Cl_g, Cl_fn, Cl_rp, Cl_ro, or_imp, forall_and]; done) | (split <;> simp [Cl_v, Cl_t, Cl_g, Cl_fn, Cl_rp, Cl_ro])) (Nat.le_of_ble_eq_true rfl) ?_; rw [Try.ntmps45, Try.results45]
      simp -dsimp -implicitDefEqProofs (maxSteps := 1000000) only [go_sem, ↓reduceIte, Nat.reduceAdd, Nat.reduceSub, Nat.reduceMul, Nat.reduceLT, Nat.reduceLeDiff, Nat.reduceEqDiff, Nat.reduceBEq, Nat.reduceBNe, Int.reduceToNat, Int.reduceLT, Int.reduceLE, Int.reduceNeg, reduceCtorEq, Int.reduceEq, Int.reduceNe, h1, h2, h3, h4]
  · refine PFun.intro 400 mixed Try.func45 (by kernel_rfl) rfl (by first | exact .v _ | (simp [Cl_v, Cl_t, Cl_g, Cl_fn, Cl_rp, Cl_ro]; done) | (simp [Cl_v, Cl_t, Cl_g, Cl_fn, Cl_rp, Cl_ro, or_imp, forall_and]; done) | (split <;> simp [Cl_v, Cl_t, Cl_g, Cl_fn, Cl_rp, Cl_ro])) (Nat.le_of_ble_eq_true rfl) ?_; rw [Try.ntmps45, Try.results45]
    simp -dsimp -implicitDefEqProofs (maxSteps := 1000000) only [go_sem, ↓reduceIte, Nat.reduceAdd, Nat.reduceSub, Nat.reduceMul, Nat.reduceLT, Nat.reduceLeDiff, Nat.reduceEqDiff, Nat.reduceBEq, Nat.reduceBNe, Int.reduceToNat, Int.reduceLT, Int.reduceLE, Int.reduceNeg, reduceCtorEq, Int.reduceEq, Int.reduceNe, h1, h2, h3]
end

end Go.Proofs.Ytckbchkkjnahlaa
