/- What functions of the given program answer, part 2. Conditions: each theorem speaks for itself. -/
import Derived.Test.YtckbchkkjnahlaaBTy
import Derived.Test.YtckbchkkjnahlaaBF1
set_option linter.unusedSimpArgs false
set_option linter.unusedVariables false
namespace Go.Proofs.Ytckbchkkjnahlaa
open Go Go.Eng Go.RowKit
attribute [local go_sem ↓] qE_move qE_assign qE_pick qE_load qE_fieldAddr qE_indexAddr qE_extract qE_binOp qE_neg qE_not qE_convert qE_build qE_len qE_max2 qE_min2 qE_nilCheck qE_slice vc_end vc_skip vc_ret vc_seq vc_cond vc_block vc_exit vc_region vc_draw vc_loop vc_blk vc_lp vc_o_nil vc_o vc_o_guard onK_eq oK_move oK_assign oK_pick oK_load oK_fieldAddr oK_indexAddr oK_index oK_extract oK_binOp oK_unOp oK_convert oK_nilCheck oK_slice oK_build oK_len oK_max oK_min onN_eq oK_box oK_alloc oK_buildSlice oK_makeSlice onH_eq oK_store onA_eq oK_append oK_call oK_copy oK_cap oK_clear bV_add bV_sub bV_mul bV_quo bV_rem bV_or bV_shl bV_shr bV_eql bV_neq bV_lss bV_leq bV_gtr bV_geq vcQ_nil vcQ_cons vcQ_guard Q_move Q_assign Q_pick Q_load Q_fieldAddr Q_indexAddr Q_extract Q_binOp Q_unOp Q_convert Q_nilCheck Q_slice Q_build Q_len Q_alloc Q_makeSlice Q_buildSlice Q_call qE_index tailB_nil tailB_true onS_eq tailB_store onP_eq tailB_append onQ_eq onQB_eq loadE indexE
attribute [local go_sem] force_eq optK_some optE_some optE_none bK_v tK_t fnK_fn fyK_fn nK_ptr pK_ptr pK_rp brK_true brK_false brK_not evA_tmp evA_const evA_func putA_some putA_none pushA_eq slots_zero slots_nil tl_nil tl_cons find_cons find_nil setN_cons setN_nil dropN_nil dropN_cons loE_none loE_some hiE_none hiE_some slE_sl slE_ro bE_i bE_beq bE_bne bE_eql bE_neq intsA_nil intsA_cons gdK_b gdK_u popTo_blk popTo_c popTo_lp nilE_tmp nilE_int nilE_nil srcE_ro srcE_sl dstE_sl dstE_ez fin_eq res_nil res_tmp res_cell tup1 tup0 optA_some frz_v frz_ro frz_g frz_sl nm_v nm_ro nm_sl cells_v cells_g cells_ro cells_ptr cells_sl one_int one_bool one_slice oneA_v oneA_ro oneA_sl ofV_int ofV_bool ofV_string ofV_slice len_ro len_sl len_nil asI_int fill_nil fill_cons chunks_nil chunks_cons take_all DrawK_eq idR_eq addB_some roB_nil roB_cons sg_nil sg_cons ren_v ren_nil ren_ptr ren_sl ren_ro iK_ro iK_sl ixE_s takeA_00 takeA_s nil_eq maskE_eq i_InlQ i_tup2 i_RenF_nil i_RenF_cons wrap_wr brK_dec maskH_eq upd_get slots_succ Cl_v Cl_ro Cl_rp Cl_fn Cl_g Cl_t Bool.false_eq_true decide_true decide_false beq_self_eq_true true_and and_true ne_eq not_true not_false_eq_true List.elem_cons List.elem_nil List.contains_cons List.contains_nil List.getD_cons_zero List.getD_cons_succ Int.cast_ofNat_Int Bool.or_true Bool.true_or Bool.or_false Bool.false_or if_true if_false List.toList_toArray List.map_cons List.map_nil List.cons_append List.nil_append List.append_nil List.flatMap_cons List.flatMap_nil List.getElem?_cons_zero List.getElem?_cons_succ List.length_cons List.length_nil List.drop_succ_cons List.drop_zero List.take_succ_cons List.take_zero List.all_cons List.all_nil List.set_cons_zero List.set_cons_succ Option.bind_some Option.bind_none Option.map_some Option.map_none List.headD_cons List.tail_cons List.getElem?_toArray beq_true beq_false Bool.not_true Bool.not_false Bool.true_and Bool.and_true Bool.false_and Bool.and_false newCh List.replicate_succ List.replicate_zero Option.some.injEq exists_eq_left' sg_nil sg_cons List.mem_cons List.not_mem_nil forall_eq_or_imp forall_eq false_implies implies_true or_false false_or false_and and_false or_true true_or exists_false Option.isSome_some Option.isSome_none List.range_zero
attribute [local go_sem] T.ik2 T.us2 T.sz3 T.by3 T.ag3 T.pt3 T.ik3 T.us3 T.ze3 T.sz4 T.ag4 T.bo4 T.ik5 T.us5 T.st9 T.sz22 T.ag22 T.sl22 T.ar22 T.pt22 T.ik22 T.us22 T.sl25 T.ar25 T.pt25 T.ik25 T.us25 T.sz27 T.by27 T.ag27 T.ze27 T.fl27_0 T.fl27_1 T.bu27 T.sz30 T.ag30 T.sz32 T.ag32 T.ze32 T.fl32_0 T.fl32_1 T.fl32_2 T.fl32_3 T.bu32 T.sz34 T.by34 T.ag34 T.ze34 T.fl34_0 T.fl34_1 T.fl34_2 T.bu34 T.sz37 T.ag37 T.ze37 T.fl37_0 T.fl37_1 T.bu37 T.sl41 T.ik41 T.us41 T.sz44 T.by44 T.ag44 T.ze44 T.bu44 T.sz61 T.ag61 T.sl61 T.ar61 T.pt61 T.ik61 T.us61 T.ze61 T.sz66 T.by66 T.ag66 T.ze66 T.fl66_0 T.fl66_1 T.fl66_2 T.fl66_3 T.fl66_4 T.fl66_5 T.fl66_6 T.fl66_7 T.fl66_8 T.bu66 T.sl71 T.ik71 T.us71 T.sz80 T.ag80 T.ze80 T.sl81 T.ik94 T.us94 T.sl96 T.ar96 T.pt96 T.ik96 T.us96 T.sz98 T.ag98 T.sl98 T.ar98 T.pt98 T.ik98 T.us98 T.sz100 T.by100 T.ag100 T.ze100 T.fl100_0 T.fl100_1 T.bu100 T.sz101 T.by101 T.ag101 T.sl101 T.ar101 T.ze101 T.sz103 T.by103 T.ag103 T.ze103 T.fl103_0 T.fl103_1 T.fl103_2 T.fl103_3 T.bu103 T.sl107 T.sl112 T.ik118 T.sl122 T.sz127 T.ag127 T.ze127 T.fl127_0 T.fl127_1 T.bu127 T.sz131 T.by131 T.ag131 T.ik131 T.us131 T.ze131 -- EXTRA=EngZP
section
set_option maxRecDepth 20000
attribute [local go_sem] eqk27' clKnsL clArsL
def OpenC (mid r : List Ar) : Prop := r.length = mid.length ∧ ∀ pre post : List Ar, pre.length + mid.length + post.length ≤ 1000 →
  MFun Try.prog 48 [.sl 0 pre.length mid.length] [(0, ⟨19, (pre ++ mid ++ post).map ArC⟩)] 1 none [0] (.t []) [(0, ⟨19, (pre ++ r ++ post).map ArC⟩)] 1 none
def stW (r : Ar) : Ar := ⟨r.fx, r.fy, r.tx, r.ty, r.a, r.b, r.far, r.dir, r.u, r.v, true⟩
theorem open_st (r : Ar) (ha : r.a.op = 2) (hb : r.b.op = 2) : OpenC [r] [stW r] := by
  refine ⟨rfl, fun pre post hl => ?_⟩
  obtain ⟨p, hp⟩ : ∃ p, p = pre.length := ⟨_, rfl⟩
  have hg : ((pre ++ [r] ++ post).map ArC)[p]? = some (ArC r) := by rw [List.getElem?_map, hp]; simp
  have hs : ∀ L, L = ArC (stW r) → ((pre ++ [r] ++ post).map ArC).set p L = (pre ++ [stW r] ++ post).map ArC := by
    intro L hL
    subst hL
    rw [← List.map_set, hp]
    congr 1
    simp
  have hne : (pre ++ [stW r] ++ post).map ArC ≠ [] := by simp
  have hne2 : (pre ++ [r] ++ post).map ArC ≠ [] := by simp
  rw [← hp]
  refine MFun.intro2 400 [] mixed Try.func48 (by kernel_rfl) rfl (by rw [Try.results48]; rfl) (Nat.le_of_ble_eq_true rfl) ?_; rw [Try.ntmps48]
  simp -dsimp -implicitDefEqProofs (maxSteps := 1000000) only [go_sem, ↓reduceIte, Nat.reduceAdd, Nat.reduceSub, Nat.reduceMul, Nat.reduceLT, Nat.reduceLeDiff, Nat.reduceEqDiff, Nat.reduceBEq, Nat.reduceBNe, Int.reduceToNat, Int.reduceLT, Int.reduceLE, Int.reduceNeg, reduceCtorEq, Int.reduceEq, Int.reduceNe]
  refine AtCode.draw 8 [([], []), ([0], []), ([], []), ([], []), ([3], []), ([2, 3, 4], []), ([0, 1], []), ([0, 1, 2, 3, 4, 5, 6], [])] (by kernel_rfl) ?_
  simp -dsimp -implicitDefEqProofs (maxSteps := 1000000) only [go_sem, ↓reduceIte, Nat.reduceAdd, Nat.reduceSub, Nat.reduceMul, Nat.reduceLT, Nat.reduceLeDiff, Nat.reduceEqDiff, Nat.reduceBEq, Nat.reduceBNe, Int.reduceToNat, Int.reduceLT, Int.reduceLE, Int.reduceNeg, reduceCtorEq, Int.reduceEq, Int.reduceNe, hg, ha, hb, Nat.add_zero, show wr (1 - 1) = 0 by decide]
  refine FinM2.mkv [] [(0, .sl 0 p 1)] ?_ ?_ ?_ ?_ ?_
  · simp -dsimp -implicitDefEqProofs only [go_sem, seval]
    exact renL_cl2 (hs _ (by simp [stW, ha, hb])) ((clArsL _).2 trivial)
  · simp
  · simp [sg]
  · simp -dsimp -implicitDefEqProofs only [go_sem, seval]
  · simp only [List.mem_singleton, forall_eq]
    exact ⟨0, p, 0, _, _, rfl, by simp -dsimp -implicitDefEqProofs only [go_sem, seval], rfl, rfl, rfl, hne2, hne⟩
def chainN : Ar → List Ar → Nat
  | _, [] => 0
  | x, y :: r => if goesW x y then chainN y r + 1 else 0
theorem chain_le : ∀ (x : Ar) (r : List Ar), chainN x r ≤ r.length
  | _, [] => Nat.le_refl _
  | x, y :: r => by
    simp only [chainN]
    split
    · have := chain_le y r; simp only [List.length_cons]; omega
    · omega
theorem chain_t : ∀ (x : Ar) (r : List Ar) (j : Nat), j < chainN x r → goesW ((x :: r).getD j zA) ((x :: r).getD (j + 1) zA) = true
  | _, [], j, h => by simp [chainN] at h
  | x, y :: r, j, h => by
    simp only [chainN] at h
    split at h
    · rename_i hg
      cases j with
      | zero => exact hg
      | succ j => exact chain_t y r j (by omega)
    · omega
theorem chain_f : ∀ (x : Ar) (r : List Ar), chainN x r < r.length → goesW ((x :: r).getD (chainN x r) zA) ((x :: r).getD (chainN x r + 1) zA) = false
  | _, [], h => by simp at h
  | x, y :: r, h => by
    by_cases hg : goesW x y = true
    · have e : chainN x (y :: r) = chainN y r + 1 := by simp only [chainN]; rw [if_pos hg]
      rw [e] at h ⊢
      simp only [List.length_cons] at h
      exact chain_f y r (by omega)
    · have e : chainN x (y :: r) = 0 := by simp only [chainN]; rw [if_neg hg]
      rw [e]
      simpa using hg
inductive Str : List Ar → List Ar → Prop
  | nil : Str [] []
  | cons (x : Ar) (xs m r : List Ar) (hm : m.length = chainN x xs + 1) (h3 : x.a.op = 3 → m = x :: xs.take (chainN x xs)) (hn : x.a.op ≠ 3 → OpenC (x :: xs.take (chainN x xs)) m) (hr : Str (xs.drop (chainN x xs)) r) : Str (x :: xs) (m ++ r)
theorem Str.len {l r : List Ar} (h : Str l r) : r.length = l.length := by
  induction h with
  | nil => rfl
  | cons x xs m r hm h3 hn hr ih =>
    have := chain_le x xs
    rw [List.length_append, hm, ih, List.length_drop, List.length_cons]
    omega
end

section
set_option maxRecDepth 20000
attribute [local go_sem] eqk27' clKnsL clArsL
def Beg (l : List Ar) (c : Bool) (b : Nat) : Prop :=
  (c = false ∧ b = 0) ∨ (c = true ∧ b < l.length ∧ (∀ i, i < b → goesW (l.getD ((i + l.length - 1) % l.length) zA) (l.getD i zA) = true) ∧ goesW (l.getD ((b + l.length - 1) % l.length) zA) (l.getD b zA) = false)
theorem AtLoop.sk {rec : List It → (AState → Prop) → AState → Prop} {b : Code} {k : List It} {Q : AState → Prop} {n : Nat} {x : Aux} {t : Nat → AV} {h : List (Nat × Blk)} {kk : Nat} (I : Nat → List (Nat × Blk) → (Nat → AV) → Nat → Prop) (m0 : Nat) (h0 : I m0 h t kk)
    (hstep : ∀ (m : Nat) (h : List (Nat × Blk)) (t : Nat → AV) (kk : Nat), I m h t kk → rec (.c b :: .lp (fun s' => ∃ j : {p : Nat × List (Nat × Blk) × (Nat → AV) × Nat // I p.1 p.2.1 p.2.2.1 p.2.2.2}, j.1.1 < m ∧ Le s' ⟨n, j.1.2.2.1, j.1.2.1, j.1.2.2.2, x⟩) :: k) Q ⟨n, t, h, kk, x⟩) : AtLoop rec b k Q ⟨n, t, h, kk, x⟩ :=
  ⟨{p : Nat × List (Nat × Blk) × (Nat → AV) × Nat // I p.1 p.2.1 p.2.2.1 p.2.2.2}, fun j => ⟨n, j.1.2.2.1, j.1.2.1, j.1.2.2.2, x⟩, fun j => j.1.1, ⟨⟨(m0, h, t, kk), h0⟩, fun _ _ _ h => h⟩, fun i => hstep i.1.1 i.1.2.1 i.1.2.2.1 i.1.2.2.2 i.2⟩
theorem sk_mk {I : Nat → List (Nat × Blk) → (Nat → AV) → Nat → Prop} {n m : Nat} {x : Aux} {t' : Nat → AV} {h' : List (Nat × Blk)} {kk' : Nat} (m' : Nat) (h1 : m' < m) (h2 : I m' h' t' kk') : ∃ j : {p : Nat × List (Nat × Blk) × (Nat → AV) × Nat // I p.1 p.2.1 p.2.2.1 p.2.2.2}, j.1.1 < m ∧ Le ⟨n, t', h', kk', x⟩ ⟨n, j.1.2.2.1, j.1.2.1, j.1.2.2.2, x⟩ :=
  ⟨⟨(m', h', t', kk'), h2⟩, h1, fun _ _ _ h => h⟩
def zl66 : List Value := List.replicate 18 (.int .i64 0) ++ [.bool false]
def apH (l : List Ar) (b : Nat) : Nat → List (Nat × Blk)
  | 0 => [(10, ⟨19, (l.drop b).map ArC ++ (l.take b).map ArC⟩), (0, ⟨19, l.map ArC⟩)]
  | 1 => [(9, ⟨19, (l.drop b).map ArC⟩), (0, ⟨19, l.map ArC⟩)]
  | _ => [(8, ⟨19, List.replicate l.length (zl66.map AV.v)⟩), (0, ⟨19, l.map ArC⟩)]
def apS (n b : Nat) : Nat → AV
  | 0 => .sl 10 0 n
  | 1 => .sl 9 0 (n - b)
  | _ => .sl 8 0 0
def apI (l : List Ar) (b : Nat) (m : Nat) (h : List (Nat × Blk)) (t : Nat → AV) (k : Nat) : Prop :=
  m ≤ 2 ∧ t 25 = .ro 1 [[.sl 0 b (l.length - b)], [.sl 0 0 b]] ∧ t 26 = I 2 ∧ t 27 = I ((2 - m : Nat) : Int) ∧ t 6 = apS l.length b m ∧ h = apH l b m ∧ k = 11 - m
theorem takeD (l : List Ar) (b : Nat) (n : Nat) : takeA b n (l.map ArC) = ((l.drop b).take n).map ArC := by rw [takeA_eq, ← List.map_drop, ← List.map_take]
theorem slE_nil0 {P : Program} {H : Nat → Option Blk} {t d : TypeId} {K : AV → Prop} [Tg K] (h : slT P t = some d) (hz : 0 < szT P d) (hk : K (.v (.slice none 0 0))) : slE P H t (.v (.slice none 0 0)) none (some (.v (.int .i64 0))) none K := by
  unfold slE sliceK
  exact ⟨0, 0, rfl, ⟨.i64, 0, rfl, rfl⟩, trivial, Nat.le_refl _, Nat.le_refl _, ⟨d, h, hz⟩, hk⟩
theorem sz66 : szT Try.prog 66 = 19 := by kernel_rfl
theorem by66 : byT Try.prog 66 = 152 := by kernel_rfl
def szI (n b : Nat) (h0 : List (Nat × Blk)) (m : Nat) (h : List (Nat × Blk)) (t : Nat → AV) (k : Nat) : Prop :=
  m ≤ 2 ∧ t 0 = .ro 1 [[.sl 0 b (n - b)], [.sl 0 0 b]] ∧ t 9 = .ro 1 [[.sl 0 b (n - b)], [.sl 0 0 b]] ∧ t 10 = I 2 ∧ t 11 = I ((2 - m : Nat) : Int) ∧ t 3 = I ((if m = 2 then 0 else if m = 1 then n - b else n : Nat) : Int) ∧ h = h0 ∧ k = 8
set_option maxHeartbeats 4000000 in
theorem solve27 (l r : List Ar) (c : Bool) (b : Nat) (h1 : 1 ≤ l.length) (h2 : l.length ≤ 200) (hb : Beg l c b) (hs : Str (l.drop b ++ l.take b) r) :
    MFun Try.prog 27 [.sl 0 0 l.length, Bo c] [(0, ⟨19, l.map ArC⟩)] 1 none [0] (.t []) [(0, ⟨19, (r.drop (l.length - b) ++ r.take (l.length - b)).map ArC⟩)] 1 none := by
  have hrl : r.length = l.length := by rw [hs.len]; simp; omega
  have hbl : b < l.length := by rcases hb with ⟨_, h⟩ | ⟨_, h, _⟩ <;> omega
  have hbl2 : b ≤ l.length := by omega
  refine MFun.intro2 400 [] mixed Try.func27 (by kernel_rfl) rfl (by rw [Try.results27]; rfl) (Nat.le_of_ble_eq_true rfl) ?_; rw [Try.ntmps27]
  cases c with
  | true =>
    obtain ⟨_, _, ht, hf⟩ : _ ∧ _ := hb.resolve_left (fun h => by simp at h)
    simp -dsimp -implicitDefEqProofs only [go_sem, seval]
    refine ⟨{i : Nat // i ≤ b}, fun i => ⟨93, tl [(0, .sl 0 0 l.length), (1, Bo true), (4, I (l.length : Nat)), (5, I i.1)], [(0, ⟨19, l.map ArC⟩)], 1, ⟨[tl [(0, .sl 0 0 l.length)]], some (.mp none)⟩⟩, fun i => b - i.1,
      ⟨⟨0, by omega⟩, Le.tl (Ls := [[(0, .sl 0 0 l.length)]]) [] (by simp -dsimp -implicitDefEqProofs only [go_sem, seval]) ?_ (by simp) (by simp [sg]) ⟨by simp -dsimp -implicitDefEqProofs only [go_sem, seval], trivial⟩⟩, fun i => ?_⟩
    · simp -dsimp -implicitDefEqProofs only [go_sem, seval]
      exact renL_cl rfl ((clArsL _).2 trivial)
    obtain ⟨i, hi⟩ := i
    have hil : i < l.length := by omega
    have c1 : (i : Int) < ((l.length : Nat) : Int) := by omega
    have hjl : (i + l.length - 1) % l.length < l.length := Nat.mod_lt _ (by omega)
    have hgi := getAr (l := l) (i := i) hil
    have hgj := getAr hjl
    have e1 : wr ((i : Int) + (l.length : Nat)) = ((i + l.length : Nat) : Int) := by rw [wr_in] <;> omega
    have e2 : wr (((i + l.length : Nat) : Int) - 1) = ((i + l.length - 1 : Nat) : Int) := by rw [wr_in] <;> omega
    have e3 : (((i + l.length - 1 : Nat) : Int)).tmod (l.length : Int) = (((i + l.length - 1) % l.length : Nat) : Int) := tmodN _ _
    have e4 : wr (((i + l.length - 1) % l.length : Nat) : Int) = (((i + l.length - 1) % l.length : Nat) : Int) := wr_in (by omega) (by omega)
    have hn0 : ¬ ((l.length : Nat) : Int) = 0 := by omega
    have hgo := goes45 (l.getD ((i + l.length - 1) % l.length) zA) (l.getD i zA)
    obtain ⟨j, hj⟩ : ∃ j, j = (i + l.length - 1) % l.length := ⟨_, rfl⟩
    rw [← hj] at hjl hgj e3 e4 hgo
    have c2 : (j : Int) < ((l.length : Nat) : Int) := by omega
    simp -dsimp -implicitDefEqProofs only [go_sem, seval]
    refine AtCode.draw 19 [([], []), ([], []), ([0, 1], []), ([0, 1, 2], []), ([0, 1, 2, 3], []), ([0, 1, 2, 3], []), ([0, 1, 2, 3], []), ([0, 1, 2, 3, 5, 6], []), ([0, 1, 2, 3, 5, 6, 7], []), ([0, 1, 2, 3], []), ([0, 1, 2, 3, 5, 6, 7, 8, 9], []), ([0, 1, 2, 3, 4, 5, 6, 7, 8, 9, 10], []), ([0, 1, 2, 3, 4, 5, 6, 7, 8, 9, 10, 11], []), ([0, 1, 2, 3], []), ([0, 1, 2, 3], []), ([0, 1, 2, 3, 13, 14], []), ([0, 1, 2, 3, 13, 14, 15], []), ([0, 1, 2, 3, 4, 5, 6, 7, 8, 9, 10, 11, 12, 13, 14, 15, 16], []), ([0, 1, 2, 3, 4, 5, 6, 7, 8, 9, 10, 11, 12, 13, 14, 15, 16, 17], [])] (by kernel_rfl) ?_
    simp -dsimp -implicitDefEqProofs only [go_sem, seval, c1, c2, e1, e2, e3, e4, hn0, Int.toNat_natCast, Int.natCast_nonneg, hgi, hgj, Nat.zero_add]
    refine QFn.use _ hgo (by simp -dsimp -implicitDefEqProofs only [go_sem, seval]) ?_
    by_cases hib : i = b
    · have hib' : b = i := hib.symm
      subst hib'
      rw [← hj] at hf
      have hni : ¬ ((b : Int) = ((l.length : Nat) : Int)) := by omega
      have hb0 : True := trivial
      simp -dsimp -implicitDefEqProofs only [go_sem, seval, hf, hni]
      clear hgo hgi hgj e1 e2 e3 e4 hj
      refine AtCode.le ⟨93, tl [(0, .sl 0 0 l.length), (4, I (l.length : Nat)), (5, I (b : Nat))], [(0, ⟨19, l.map ArC⟩)], 1, ⟨[tl [(0, .sl 0 0 l.length)]], some (.mp none)⟩⟩ (Le.tl (Ls := [[(0, .sl 0 0 l.length)]]) [] (by simp -dsimp -implicitDefEqProofs only [go_sem, seval, hb0]) ?_ (by simp) (by simp [sg]) ⟨by simp -dsimp -implicitDefEqProofs only [go_sem, seval], trivial⟩) ?_
      · simp -dsimp -implicitDefEqProofs only [go_sem, seval]
        exact renL_cl rfl ((clArsL _).2 trivial)
      have q1 : 0 ≤ (b : Nat) ∧ b ≤ l.length := by omega
      have q2 : (0 : Nat) ≤ b ∧ b ≤ l.length := by omega
      refine AtCode.draw 7 [([], []), ([], []), ([0, 1], []), ([], []), ([], []), ([3, 4], []), ([0, 1, 2, 3, 4, 5], []), ([0, 1, 2, 3, 4, 5, 6], []), ([0, 1, 2, 3, 4, 5, 6, 7], [])] (by kernel_rfl) ?_
      simp -dsimp -implicitDefEqProofs only [go_sem, seval, Int.natCast_nonneg, Int.toNat_natCast, Nat.zero_add, Nat.zero_le, hbl2, Nat.le_refl, Nat.sub_zero]
      refine AtFn.inl 400 [2] mixed Try.func47 (by kernel_rfl) rfl (by rw [Try.results47]; rfl) (Nat.le_of_ble_eq_true rfl) ?_; rw [Try.ntmps47]
      simp -dsimp -implicitDefEqProofs only [go_sem, seval]
      refine AtLoop.sk (szI l.length b [(0, ⟨19, l.map ArC⟩)]) 2 ⟨by decide, by simp -dsimp -implicitDefEqProofs only [go_sem, seval], by simp -dsimp -implicitDefEqProofs only [go_sem, seval], by simp -dsimp -implicitDefEqProofs only [go_sem, seval], by simp -dsimp -implicitDefEqProofs only [go_sem, seval], by simp -dsimp -implicitDefEqProofs only [go_sem, seval], rfl, rfl⟩ fun m hh tt kk hI => ?_
      obtain ⟨b1, b2, b3, b4, b5, b6, rfl, rfl⟩ := hI
      match m, b1 with
      | 2, _ =>
        have b5' : tt 11 = I 0 := b5
        have b6' : tt 3 = I 0 := b6
        have w1 : wr (0 + ((l.length - b : Nat) : Int)) = ((l.length - b : Nat) : Int) := by rw [wr_in] <;> omega
        have w2 : ¬ ((l.length - b : Nat) : Int) < 0 := by omega
        simp -dsimp -implicitDefEqProofs only [go_sem, seval, b2, b3, b4, b5', b6', w1, w2]
        exact sk_mk (I := szI l.length b [(0, ⟨19, l.map ArC⟩)]) 1 (by decide) ⟨by decide, by simp -dsimp -implicitDefEqProofs only [go_sem, seval, b2], by simp -dsimp -implicitDefEqProofs only [go_sem, seval, b3], by simp -dsimp -implicitDefEqProofs only [go_sem, seval, b4], by simp -dsimp -implicitDefEqProofs only [go_sem, seval]; rfl, by simp -dsimp -implicitDefEqProofs only [go_sem, seval], rfl, rfl⟩
      | 1, _ =>
        have b5' : tt 11 = I 1 := b5
        have b6' : tt 3 = I ((l.length - b : Nat) : Int) := b6
        have w1 : wr (((l.length - b : Nat) : Int) + (b : Nat)) = ((l.length : Nat) : Int) := by rw [wr_in] <;> omega
        have w2 : ¬ ((l.length : Nat) : Int) < 0 := by omega
        simp -dsimp -implicitDefEqProofs only [go_sem, seval, b2, b3, b4, b5', b6', w1, w2]
        exact sk_mk (I := szI l.length b [(0, ⟨19, l.map ArC⟩)]) 0 (by decide) ⟨by decide, by simp -dsimp -implicitDefEqProofs only [go_sem, seval, b2], by simp -dsimp -implicitDefEqProofs only [go_sem, seval, b3], by simp -dsimp -implicitDefEqProofs only [go_sem, seval, b4], by simp -dsimp -implicitDefEqProofs only [go_sem, seval]; rfl, by simp -dsimp -implicitDefEqProofs only [go_sem, seval], rfl, rfl⟩
      | 0, _ =>
        have b5' : tt 11 = I 2 := b5
        have b6' : tt 3 = I ((l.length : Nat) : Int) := b6
        simp -dsimp -implicitDefEqProofs only [go_sem, seval, b2, b3, b4, b5', b6']
        refine AtFn.inl 400 [4] mixed Try.func73 (by kernel_rfl) rfl (by rw [Try.results73]; rfl) (Nat.le_of_ble_eq_true rfl) ?_; rw [Try.ntmps73]
        have w2 : ¬ ((l.length : Nat) : Int) < 0 := by omega
        have w3 : wr (((l.length : Nat) : Int) - 0) = ((l.length : Nat) : Int) := by rw [wr_in] <;> omega
        have w4 : (0 : Int) < ((l.length : Nat) : Int) := by omega
        simp -dsimp -implicitDefEqProofs only [go_sem, seval, w2]
        refine AtOp.cap0 (e := 66) rfl (by kernel_rfl) ?_ ?_
        · simp -dsimp -implicitDefEqProofs (maxSteps := 1000000) only [go_sem, ↓reduceIte, Nat.reduceAdd, Nat.reduceSub, Nat.reduceMul, Nat.reduceLT, Nat.reduceLeDiff, Nat.reduceEqDiff, Nat.reduceBEq, Nat.reduceBNe, Int.reduceToNat, Int.reduceLT, Int.reduceLE, Int.reduceNeg, reduceCtorEq, Int.reduceEq, Int.reduceNe]
        have w5 : wr (0 - 0) = 0 := by decide
        simp -dsimp -implicitDefEqProofs (maxSteps := 1000000) only [go_sem, ↓reduceIte, Nat.reduceAdd, Nat.reduceSub, Nat.reduceMul, Nat.reduceLT, Nat.reduceLeDiff, Nat.reduceEqDiff, Nat.reduceBEq, Nat.reduceBNe, Int.reduceToNat, Int.reduceLT, Int.reduceLE, Int.reduceNeg, reduceCtorEq, Int.reduceEq, Int.reduceNe, w5, w3, w4]
        refine AtOp.cap0 (e := 66) rfl (by kernel_rfl) ?_ ?_
        · simp -dsimp -implicitDefEqProofs only [go_sem, seval]
        simp -dsimp -implicitDefEqProofs only [go_sem, seval]
        refine slE_nil0 (d := 66) (by kernel_rfl) (by rw [sz66]; decide) ?_
        simp -dsimp -implicitDefEqProofs only [go_sem, seval]
        refine AtOp.grow (e := 66) (m := l.length) (zl := zl66) (ik := .i64) rfl (by kernel_rfl) (by kernel_rfl) (by rw [sz66]; decide) (by rw [by66]; decide) (by kernel_rfl) (by rw [sz66]; rfl) ?_ ?_ (by omega) (by omega) ?_
        · simp -dsimp -implicitDefEqProofs only [go_sem, seval]
        · simp -dsimp -implicitDefEqProofs only [go_sem, seval]
        simp -dsimp -implicitDefEqProofs only [go_sem, seval, sz66, Nat.zero_le, Nat.sub_zero, b2]
        refine AtLoop.sk (apI l b) 2 ⟨by decide, by simp -dsimp -implicitDefEqProofs only [go_sem, seval, b2], by simp -dsimp -implicitDefEqProofs only [go_sem, seval], by simp -dsimp -implicitDefEqProofs only [go_sem, seval], by simp -dsimp -implicitDefEqProofs only [go_sem, seval]; rfl, rfl, rfl⟩ fun m hh tt kk hI => ?_
        obtain ⟨b1, b2, b3, b4, b5, rfl, rfl⟩ := hI
        match m, b1 with
        | 2, _ =>
          have b4' : tt 27 = I 0 := b4
          have b5' : tt 6 = .sl 8 0 0 := b5
          have f1 : List.take (l.length - b) (List.drop b l) = List.drop b l := List.take_of_length_le (by simp)
          have f2 : b + (l.length - b) ≤ l.length := by omega
          have f3 : 0 + (List.drop b l).length ≤ 274877906944 := by simp; omega
          simp -dsimp -implicitDefEqProofs only [go_sem, seval, b2, b3, b4', b5', apH, takeD, List.length_map, List.length_replicate, Nat.zero_le, oneAr, Nat.le_refl, f1, f2, f3]
          refine ⟨oneAr _, sk_mk (I := apI l b) 1 (by decide) ⟨by decide, by simp -dsimp -implicitDefEqProofs only [go_sem, seval, b2], by simp -dsimp -implicitDefEqProofs only [go_sem, seval, b3], by simp -dsimp -implicitDefEqProofs only [go_sem, seval]; rfl, by simp -dsimp -implicitDefEqProofs only [go_sem, seval, List.length_drop]; rfl, rfl, rfl⟩⟩
        | 1, _ =>
          have b4' : tt 27 = I 1 := b4
          have b5' : tt 6 = .sl 9 0 (l.length - b) := b5
          have f1 : takeA 0 (l.length - b) ((l.drop b).map ArC) = (l.drop b).map ArC := by rw [takeD, List.drop_zero, List.take_of_length_le (by simp)]
          have f2 : takeA 0 b (l.map ArC) = (l.take b).map ArC := by rw [takeD, List.drop_zero]
          have f3 : 0 + (l.length - b) ≤ ((l.drop b).map ArC).length := by simp
          have f4 : 0 + b ≤ (l.map ArC).length := by simp; omega
          have f5 : ((l.drop b).map ArC).length + ((l.take b).map ArC).length ≤ 274877906944 := by simp; omega
          have f6 : ((l.drop b).map ArC ++ (l.take b).map ArC).length = l.length := by simp; omega
          simp -dsimp -implicitDefEqProofs only [go_sem, seval, b2, b3, b4', b5', apH, f1, f2, f3, f4, f5, f6]
          refine ⟨oneAr _, sk_mk (I := apI l b) 0 (by decide) ⟨by decide, by simp -dsimp -implicitDefEqProofs only [go_sem, seval, b2], by simp -dsimp -implicitDefEqProofs only [go_sem, seval, b3], by simp -dsimp -implicitDefEqProofs only [go_sem, seval]; rfl, by simp -dsimp -implicitDefEqProofs only [go_sem, seval]; rfl, rfl, rfl⟩⟩
        | 0, _ =>
          have b4' : tt 27 = I 2 := b4
          have b5' : tt 6 = .sl 10 0 l.length := b5
          simp -dsimp -implicitDefEqProofs only [go_sem, seval, b2, b3, b4', b5', apH]
          clear b1 b2 b3 b4 b5 b4' b5' tt
          refine ⟨{p : List Ar × List Ar × List Ar // p.1.length + p.2.1.length = l.length ∧ Str p.2.1 p.2.2 ∧ p.1 ++ p.2.2 = r}, fun p => ⟨93, tl [(0, .sl 1 0 l.length), (4, I (l.length : Nat)), (5, I (b : Nat)), (6, .sl 0 0 l.length), (7, I (p.1.1.length : Nat))], [(0, ⟨19, (p.1.1 ++ p.1.2.1).map ArC⟩), (1, ⟨19, l.map ArC⟩)], 2, ⟨[tl [(0, .sl 1 0 l.length)]], some (.mp none)⟩⟩, fun p => p.1.2.1.length,
            ⟨⟨([], l.drop b ++ l.take b, r), by simp; omega, hs, rfl⟩, Le.tl (Ls := [[(0, .sl 1 0 l.length)]]) [(0, 10), (1, 0)] (by simp -dsimp -implicitDefEqProofs only [go_sem, seval]) ?_ (by simp) (by simp [sg]) ⟨by simp -dsimp -implicitDefEqProofs only [go_sem, seval], trivial⟩⟩, fun p => ?_⟩
          · simp -dsimp -implicitDefEqProofs only [go_sem, seval]
            refine ⟨renL_cl2 (by simp) ((clArsL _).2 trivial), renL_cl rfl ((clArsL _).2 trivial)⟩
          obtain ⟨⟨dn, rs, rr⟩, i1, i2, i3⟩ := p
          simp only at i1 i2 i3
          simp -dsimp -implicitDefEqProofs only [go_sem, seval]
          refine ⟨fun h => ?_, fun hout => ?_⟩
          · cases i2 with
            | nil => exact absurd h (by simp only [List.length_nil] at i1; omega)
            | cons x xs m r' hm hm3 hmn hr' =>
              have hcl := chain_le x xs
              obtain ⟨q, hq⟩ : ∃ q, q = chainN x xs := ⟨_, rfl⟩
              have ct := chain_t x xs
              have cf := chain_f x xs
              rw [← hq] at hcl hm hm3 hmn hr' ct cf
              simp only [List.length_cons] at i1
              have hd2 : dn.length < l.length := by omega
              have w0 : wr ((dn.length : Int) + 1) = ((dn.length + 1 + 0 : Nat) : Int) := by rw [wr_in] <;> omega
              have hgd : ∀ j, j < xs.length + 1 → ((dn ++ x :: xs).map ArC)[dn.length + j]? = some (ArC ((x :: xs).getD j zA)) := by
                intro j hj
                have := getAr (l := x :: xs) (i := j) (by simpa using hj)
                rw [List.map_append, List.getElem?_append_right (by simp), List.length_map, Nat.add_sub_cancel_left]
                exact this
              refine ⟨{j : Nat // j ≤ q}, fun j => ⟨93, tl [(0, .sl 1 0 l.length), (4, I (l.length : Nat)), (5, I (b : Nat)), (6, .sl 0 0 l.length), (7, I (dn.length : Nat)), (8, I (dn.length + 1 + j.1 : Nat))], [(0, ⟨19, (dn ++ x :: xs).map ArC⟩), (1, ⟨19, l.map ArC⟩)], 2, ⟨[tl [(0, .sl 1 0 l.length)]], some (.mp none)⟩⟩, fun j => q - j.1,
                ⟨⟨0, by omega⟩, Le.tl (Ls := [[(0, .sl 1 0 l.length)]]) [] (by simp -dsimp -implicitDefEqProofs only [go_sem, seval, w0]) ?_ (by simp) (by simp [sg]) ⟨by simp -dsimp -implicitDefEqProofs only [go_sem, seval], trivial⟩⟩, fun j => ?_⟩
              · simp -dsimp -implicitDefEqProofs only [go_sem, seval]
                exact ⟨renL_cl rfl ((clArsL _).2 trivial), renL_cl rfl ((clArsL _).2 trivial)⟩
              obtain ⟨j, hj⟩ := j
              simp -dsimp -implicitDefEqProofs only [go_sem, seval]
              refine AtCode.draw 15 [([], []), ([], []), ([0, 1], []), ([0, 1, 2], []), ([0, 1, 2, 3], []), ([0, 1, 2, 3], []), ([0, 1, 2, 3, 5], []), ([0, 1, 2, 3, 4, 5, 6], []), ([0, 1, 2, 3, 4, 5, 6, 7], []), ([0, 1, 2, 3], []), ([0, 1, 2, 3], []), ([0, 1, 2, 3, 9, 10], []), ([0, 1, 2, 3, 9, 10, 11], []), ([0, 1, 2, 3, 4, 5, 6, 7, 8, 9, 10, 11, 12], []), ([0, 1, 2, 3, 4, 5, 6, 7, 8, 9, 10, 11, 12, 13], [])] (by kernel_rfl) ?_
              have w1 : wr (((dn.length + 1 + j : Nat) : Int) - 1) = ((dn.length + j : Nat) : Int) := by rw [wr_in] <;> omega
              have w2 : wr (((dn.length + 1 + j : Nat) : Int) + 1) = ((dn.length + 1 + (j + 1) : Nat) : Int) := by rw [wr_in] <;> omega
              have hg0 := hgd j (by omega)
              have hgo := goes45 ((x :: xs).getD j zA) ((x :: xs).getD (j + 1) zA)
              by_cases hjq : j = q
              · subst hjq
                by_cases hend : dn.length + 1 + j < l.length
                · have hg1 := hgd (j + 1) (by omega)
                  rw [show dn.length + (j + 1) = dn.length + 1 + j by omega] at hg1
                  have c1 : ((dn.length + 1 + j : Nat) : Int) < ((l.length : Nat) : Int) := by omega
                  have c2 : ((dn.length + j : Nat) : Int) < ((l.length : Nat) : Int) := by omega
                  have hgf := cf (by omega)
                  rw [hgf] at hgo
                  simp -dsimp -implicitDefEqProofs only [go_sem, seval, c1, c2, w1, Int.toNat_natCast, Int.natCast_nonneg, Nat.zero_add, hg0, hg1]
                  refine QFn.use _ hgo (by simp -dsimp -implicitDefEqProofs only [go_sem, seval]) ?_
                  have c4 : ((dn.length : Nat) : Int) < ((l.length : Nat) : Int) := by omega
                  have hgx := hgd 0 (by omega)
                  simp only [List.getD_cons_zero, Nat.add_zero] at hgx
                  have hlen : (dn ++ m).length = dn.length + 1 + j := by rw [List.length_append, hm]; omega
                  have hla : (dn ++ m).length + (xs.drop j).length = l.length := by rw [hlen, List.length_drop]; omega
                  have hra : dn ++ m ++ r' = r := by rw [List.append_assoc]; exact i3
                  have hlt : (xs.drop j).length < (x :: xs).length := by rw [List.length_drop, List.length_cons]; omega
                  by_cases hx3 : x.a.op = 3
                  · have hblk : dn ++ x :: xs = dn ++ m ++ xs.drop j := by rw [hm3 hx3, List.append_assoc, List.cons_append, List.take_append_drop]
                    simp -dsimp -implicitDefEqProofs only [go_sem, seval, c4, Int.toNat_natCast, Int.natCast_nonneg, Nat.zero_add, hgx, hx3]
                    refine ⟨⟨(dn ++ m, xs.drop j, r'), hla, hr', hra⟩, hlt, Le.tl (Ls := [[(0, .sl 1 0 l.length)]]) [] (by simp -dsimp -implicitDefEqProofs only [go_sem, seval, hlen]) ?_ (by simp) (by simp [sg]) ⟨by simp -dsimp -implicitDefEqProofs only [go_sem, seval], trivial⟩⟩
                    simp -dsimp -implicitDefEqProofs only [go_sem, seval]
                    exact ⟨renL_cl2 (by rw [hblk]) ((clArsL _).2 trivial), renL_cl rfl ((clArsL _).2 trivial)⟩
                  · have hf := (hmn hx3).2 dn (xs.drop j) (by rw [List.length_cons, List.length_take, List.length_drop]; omega)
                    rw [show (x :: xs.take j).length = j + 1 by rw [List.length_cons, List.length_take]; omega, show dn ++ (x :: xs.take j) ++ xs.drop j = dn ++ x :: xs by rw [List.append_assoc, List.cons_append, List.take_append_drop]] at hf
                    simp -dsimp -implicitDefEqProofs only [go_sem, seval, c4, Int.toNat_natCast, Int.natCast_nonneg, Nat.zero_add, hgx, hx3]
                    refine ⟨⟨by omega, by omega⟩, ?_⟩
                    rw [show dn.length + 1 + j - dn.length = j + 1 by omega]
                    refine AtFn.le ⟨93, tl [(0, .sl 1 0 l.length), (4, I (l.length : Nat)), (5, I (b : Nat)), (6, .sl 0 0 l.length), (7, I (dn.length : Nat)), (8, I (dn.length + 1 + j : Nat)), (78, .sl 0 dn.length (j + 1))], [(0, ⟨19, (dn ++ x :: xs).map ArC⟩), (1, ⟨19, l.map ArC⟩)], 2, ⟨[tl [(0, .sl 1 0 l.length)]], some (.mp none)⟩⟩ [.sl 0 dn.length (j + 1)] (Le.tl (Ls := [[(0, .sl 1 0 l.length)]]) [] (by simp -dsimp -implicitDefEqProofs only [go_sem, seval]) ?_ (by simp) (by simp [sg]) ⟨by simp -dsimp -implicitDefEqProofs only [go_sem, seval], trivial⟩)
                      (by intro fo xs ts h; cases h; exact ⟨by simp -dsimp -implicitDefEqProofs only [go_sem, seval], by simp -dsimp -implicitDefEqProofs only [go_sem, seval]⟩) ?_
                    · simp -dsimp -implicitDefEqProofs only [go_sem, seval]
                      exact ⟨renL_cl rfl ((clArsL _).2 trivial), renL_cl rfl ((clArsL _).2 trivial)⟩
                    refine AtFn.m' (h0 := [(0, ⟨19, (dn ++ x :: xs).map ArC⟩)]) (hr := [(1, ⟨19, l.map ArC⟩)]) (k' := 2) id hf (MOk.id (Ls := [[(0, .sl 1 0 l.length)]]) (by simp) (by simp -dsimp -implicitDefEqProofs only [go_sem, seval, id_eq]) ?_ (by simp -dsimp -implicitDefEqProofs only [go_sem, seval, id_eq]) (by simp -dsimp -implicitDefEqProofs only [go_sem, seval, id_eq]) ?_ (by simp) ?_ (.cl (by simp [Cl_t])) (by simp) (by simp) (by simp)) ?_
                    · simp -dsimp -implicitDefEqProofs only [go_sem, seval, id_eq]
                      exact renL_cl rfl ((clArsL _).2 trivial)
                    · simp -dsimp -implicitDefEqProofs only [go_sem, seval, id_eq]
                      exact renL_cl rfl ((clArsL _).2 trivial)
                    · simp -dsimp -implicitDefEqProofs only [go_sem, seval, id_eq]
                      exact renL_cl rfl ((clArsL _).2 trivial)
                    simp -dsimp -implicitDefEqProofs only [go_sem, seval]
                    refine ⟨⟨(dn ++ m, xs.drop j, r'), hla, hr', hra⟩, hlt, Le.tl (Ls := [[(0, .sl 1 0 l.length)]]) [] (by simp -dsimp -implicitDefEqProofs only [go_sem, seval, hlen]) ?_ (by simp) (by simp [sg]) ⟨by simp -dsimp -implicitDefEqProofs only [go_sem, seval], trivial⟩⟩
                    simp -dsimp -implicitDefEqProofs only [go_sem, seval]
                    exact ⟨renL_cl rfl ((clArsL _).2 trivial), renL_cl rfl ((clArsL _).2 trivial)⟩
                · have c1 : ¬ ((dn.length + 1 + j : Nat) : Int) < ((l.length : Nat) : Int) := by omega
                  simp -dsimp -implicitDefEqProofs only [go_sem, seval, c1]
                  have c4 : ((dn.length : Nat) : Int) < ((l.length : Nat) : Int) := by omega
                  have hgx := hgd 0 (by omega)
                  simp only [List.getD_cons_zero, Nat.add_zero] at hgx
                  have hlen : (dn ++ m).length = dn.length + 1 + j := by rw [List.length_append, hm]; omega
                  have hla : (dn ++ m).length + (xs.drop j).length = l.length := by rw [hlen, List.length_drop]; omega
                  have hra : dn ++ m ++ r' = r := by rw [List.append_assoc]; exact i3
                  have hlt : (xs.drop j).length < (x :: xs).length := by rw [List.length_drop, List.length_cons]; omega
                  by_cases hx3 : x.a.op = 3
                  · have hblk : dn ++ x :: xs = dn ++ m ++ xs.drop j := by rw [hm3 hx3, List.append_assoc, List.cons_append, List.take_append_drop]
                    simp -dsimp -implicitDefEqProofs only [go_sem, seval, c4, Int.toNat_natCast, Int.natCast_nonneg, Nat.zero_add, hgx, hx3]
                    refine ⟨⟨(dn ++ m, xs.drop j, r'), hla, hr', hra⟩, hlt, Le.tl (Ls := [[(0, .sl 1 0 l.length)]]) [] (by simp -dsimp -implicitDefEqProofs only [go_sem, seval, hlen]) ?_ (by simp) (by simp [sg]) ⟨by simp -dsimp -implicitDefEqProofs only [go_sem, seval], trivial⟩⟩
                    simp -dsimp -implicitDefEqProofs only [go_sem, seval]
                    exact ⟨renL_cl2 (by rw [hblk]) ((clArsL _).2 trivial), renL_cl rfl ((clArsL _).2 trivial)⟩
                  · have hf := (hmn hx3).2 dn (xs.drop j) (by rw [List.length_cons, List.length_take, List.length_drop]; omega)
                    rw [show (x :: xs.take j).length = j + 1 by rw [List.length_cons, List.length_take]; omega, show dn ++ (x :: xs.take j) ++ xs.drop j = dn ++ x :: xs by rw [List.append_assoc, List.cons_append, List.take_append_drop]] at hf
                    simp -dsimp -implicitDefEqProofs only [go_sem, seval, c4, Int.toNat_natCast, Int.natCast_nonneg, Nat.zero_add, hgx, hx3]
                    refine ⟨⟨by omega, by omega⟩, ?_⟩
                    rw [show dn.length + 1 + j - dn.length = j + 1 by omega]
                    refine AtFn.le ⟨93, tl [(0, .sl 1 0 l.length), (4, I (l.length : Nat)), (5, I (b : Nat)), (6, .sl 0 0 l.length), (7, I (dn.length : Nat)), (8, I (dn.length + 1 + j : Nat)), (78, .sl 0 dn.length (j + 1))], [(0, ⟨19, (dn ++ x :: xs).map ArC⟩), (1, ⟨19, l.map ArC⟩)], 2, ⟨[tl [(0, .sl 1 0 l.length)]], some (.mp none)⟩⟩ [.sl 0 dn.length (j + 1)] (Le.tl (Ls := [[(0, .sl 1 0 l.length)]]) [] (by simp -dsimp -implicitDefEqProofs only [go_sem, seval]) ?_ (by simp) (by simp [sg]) ⟨by simp -dsimp -implicitDefEqProofs only [go_sem, seval], trivial⟩)
                      (by intro fo xs ts h; cases h; exact ⟨by simp -dsimp -implicitDefEqProofs only [go_sem, seval], by simp -dsimp -implicitDefEqProofs only [go_sem, seval]⟩) ?_
                    · simp -dsimp -implicitDefEqProofs only [go_sem, seval]
                      exact ⟨renL_cl rfl ((clArsL _).2 trivial), renL_cl rfl ((clArsL _).2 trivial)⟩
                    refine AtFn.m' (h0 := [(0, ⟨19, (dn ++ x :: xs).map ArC⟩)]) (hr := [(1, ⟨19, l.map ArC⟩)]) (k' := 2) id hf (MOk.id (Ls := [[(0, .sl 1 0 l.length)]]) (by simp) (by simp -dsimp -implicitDefEqProofs only [go_sem, seval, id_eq]) ?_ (by simp -dsimp -implicitDefEqProofs only [go_sem, seval, id_eq]) (by simp -dsimp -implicitDefEqProofs only [go_sem, seval, id_eq]) ?_ (by simp) ?_ (.cl (by simp [Cl_t])) (by simp) (by simp) (by simp)) ?_
                    · simp -dsimp -implicitDefEqProofs only [go_sem, seval, id_eq]
                      exact renL_cl rfl ((clArsL _).2 trivial)
                    · simp -dsimp -implicitDefEqProofs only [go_sem, seval, id_eq]
                      exact renL_cl rfl ((clArsL _).2 trivial)
                    · simp -dsimp -implicitDefEqProofs only [go_sem, seval, id_eq]
                      exact renL_cl rfl ((clArsL _).2 trivial)
                    simp -dsimp -implicitDefEqProofs only [go_sem, seval]
                    refine ⟨⟨(dn ++ m, xs.drop j, r'), hla, hr', hra⟩, hlt, Le.tl (Ls := [[(0, .sl 1 0 l.length)]]) [] (by simp -dsimp -implicitDefEqProofs only [go_sem, seval, hlen]) ?_ (by simp) (by simp [sg]) ⟨by simp -dsimp -implicitDefEqProofs only [go_sem, seval], trivial⟩⟩
                    simp -dsimp -implicitDefEqProofs only [go_sem, seval]
                    exact ⟨renL_cl rfl ((clArsL _).2 trivial), renL_cl rfl ((clArsL _).2 trivial)⟩
              · have hg1 := hgd (j + 1) (by omega)
                rw [show dn.length + (j + 1) = dn.length + 1 + j by omega] at hg1
                have c1 : ((dn.length + 1 + j : Nat) : Int) < ((l.length : Nat) : Int) := by omega
                have c2 : ((dn.length + j : Nat) : Int) < ((l.length : Nat) : Int) := by omega
                have hgt := ct j (by omega)
                rw [hgt] at hgo
                simp -dsimp -implicitDefEqProofs only [go_sem, seval, c1, c2, w1, Int.toNat_natCast, Int.natCast_nonneg, Nat.zero_add, hg0, hg1]
                refine QFn.use _ hgo (by simp -dsimp -implicitDefEqProofs only [go_sem, seval]) ?_
                simp -dsimp -implicitDefEqProofs only [go_sem, seval, w2]
                refine ⟨⟨j + 1, by omega⟩, by show q - (j + 1) < q - j; omega, Le.tl (Ls := [[(0, .sl 1 0 l.length)]]) [] (by simp -dsimp -implicitDefEqProofs only [go_sem, seval, w2]) ?_ (by simp) (by simp [sg]) ⟨by simp -dsimp -implicitDefEqProofs only [go_sem, seval], trivial⟩⟩
                simp -dsimp -implicitDefEqProofs only [go_sem, seval]
                exact ⟨renL_cl rfl ((clArsL _).2 trivial), renL_cl rfl ((clArsL _).2 trivial)⟩
          · have hrs : rs = [] := by
              cases rs with
              | nil => rfl
              | cons y ys => exact absurd hout (by simp only [List.length_cons] at i1; simp; omega)
            subst hrs
            have hrr : rr = [] := List.eq_nil_of_length_eq_zero (by rw [i2.len]; rfl)
            subst hrr
            rw [List.append_nil] at i3
            subst i3
            rw [List.append_nil]
            simp only [List.length_nil, Nat.add_zero] at i1
            have t1 : 0 ≤ ((b : Nat) : Int) := by omega
            simp -dsimp -implicitDefEqProofs only [go_sem, seval, Int.natCast_nonneg, Int.toNat_natCast, hbl2, Nat.le_refl, Nat.zero_add]
            refine AtOp.copy (e := 66) (n := 1) (i := b) (len := l.length - b) (b := ⟨19, l.map ArC⟩) (l := dn.map ArC) rfl (by kernel_rfl) (by rw [sz66]; decide) ?_ rfl (by rw [sz66]) (by simp; omega) ?_ ?_ (oneAr _) fun h' hh' => ?_
            · simp -dsimp -implicitDefEqProofs only [go_sem, seval]
            · rw [sz66]
              simp -dsimp -implicitDefEqProofs only [go_sem, seval]
              exact ⟨rfl, by rw [List.length_map]; omega, by rw [takeD, List.drop_zero, List.take_of_length_le (by omega)]⟩
            · simp -dsimp -implicitDefEqProofs only [go_sem, seval]
            subst hh'
            have hB : List.take b (l.map ArC) ++ List.take (l.length - b) (dn.map ArC) ++ List.drop (b + min (dn.map ArC).length (l.length - b)) (l.map ArC) = (l.take b ++ dn.take (l.length - b)).map ArC := by
              rw [List.drop_eq_nil_of_le (by simp; omega), List.append_nil, List.map_append, List.map_take, List.map_take]
            have w9 : wr (((l.length : Nat) : Int) - (b : Nat)) = ((l.length - b : Nat) : Int) := by rw [wr_in] <;> omega
            have hsb : l.length - b ≤ l.length := by omega
            have hsb2 : l.length - (l.length - b) = b := by omega
            have hBl : (l.take b ++ dn.take (l.length - b)).length = l.length := by simp; omega
            simp -dsimp -implicitDefEqProofs only [go_sem, seval, hB, w9, Int.natCast_nonneg, Int.toNat_natCast, hsb, Nat.le_refl, Nat.zero_add, hsb2]
            refine AtOp.copy (e := 66) (n := 1) (i := 0) (len := l.length) (b := ⟨19, (l.take b ++ dn.take (l.length - b)).map ArC⟩) (l := (dn.drop (l.length - b)).map ArC) rfl (by kernel_rfl) (by rw [sz66]; decide) ?_ rfl (by rw [sz66]) (by rw [List.length_map, hBl]; omega) ?_ ?_ (oneAr _) fun h' hh' => ?_
            · simp -dsimp -implicitDefEqProofs only [go_sem, seval]
            · rw [sz66]
              simp -dsimp -implicitDefEqProofs only [go_sem, seval]
              exact ⟨rfl, by rw [List.length_map]; omega, by rw [takeD, List.take_of_length_le (by simp; omega)]⟩
            · simp -dsimp -implicitDefEqProofs only [go_sem, seval]
            subst hh'
            have e1 : min ((dn.drop (l.length - b)).map ArC).length l.length = b := by rw [List.length_map, List.length_drop]; omega
            have e2 : (l.take b).length = b := by rw [List.length_take]; omega
            have e3 : (l.take b ++ dn.take (l.length - b)).drop b = dn.take (l.length - b) := by rw [List.drop_append_of_le_length (by omega), List.drop_eq_nil_of_le (by omega), List.nil_append]
            have e4 : List.drop b ((l.take b ++ dn.take (l.length - b)).map ArC) = (dn.take (l.length - b)).map ArC := by rw [← List.map_drop, e3]
            have e5 : List.take l.length ((dn.drop (l.length - b)).map ArC) = (dn.drop (l.length - b)).map ArC := List.take_of_length_le (by rw [List.length_map, List.length_drop]; omega)
            have hC : List.take l.length ((dn.drop (l.length - b)).map ArC) ++ List.drop (0 + min ((dn.drop (l.length - b)).map ArC).length l.length) ((l.take b ++ dn.take (l.length - b)).map ArC) = (dn.drop (l.length - b) ++ dn.take (l.length - b)).map ArC := by
              rw [e1, Nat.zero_add, e4, e5, List.map_append]
            have hne : (dn.drop (l.length - b) ++ dn.take (l.length - b)).map ArC ≠ [] := by
              intro hc
              have := congrArg List.length hc
              rw [List.length_map, List.length_append, List.length_drop, List.length_take, List.length_nil] at this
              omega
            have hne2 : l.map ArC ≠ [] := by
              intro hc
              have := congrArg List.length hc
              rw [List.length_map, List.length_nil] at this
              omega
            obtain ⟨n1, hn1⟩ : ∃ n1, l.length = n1 + 1 := ⟨l.length - 1, by omega⟩
            simp -dsimp -implicitDefEqProofs only [go_sem, seval, hC]
            refine FinM2.mkv [(0, 1)] [(0, .sl 0 0 l.length)] ?_ ?_ ?_ ?_ ?_
            · simp -dsimp -implicitDefEqProofs only [go_sem, seval]
              exact renL_cl rfl ((clArsL _).2 trivial)
            · simp
            · simp [sg]
            · simp -dsimp -implicitDefEqProofs only [go_sem, seval]
            · simp only [List.mem_singleton, forall_eq]
              rw [hn1]
              exact ⟨0, 0, n1, _, _, rfl, by simp -dsimp -implicitDefEqProofs only [go_sem, seval], rfl, rfl, rfl, hne2, by rw [hn1] at hne; exact hne⟩
    · have hg := ht i (by omega)
      rw [← hj] at hg
      have e5 : wr ((i : Int) + 1) = ((i + 1 : Nat) : Int) := by rw [wr_in] <;> omega
      simp -dsimp -implicitDefEqProofs only [go_sem, seval, hg]
      refine ⟨⟨i + 1, by omega⟩, by show b - (i + 1) < b - i; omega, Le.tl (Ls := [[(0, .sl 0 0 l.length)]]) [] (by simp -dsimp -implicitDefEqProofs only [go_sem, seval, e5]) ?_ (by simp) (by simp [sg]) ⟨by simp -dsimp -implicitDefEqProofs only [go_sem, seval], trivial⟩⟩
      simp -dsimp -implicitDefEqProofs only [go_sem, seval]
      exact renL_cl rfl ((clArsL _).2 trivial)
  | false =>
    obtain ⟨_, hb0⟩ : _ ∧ _ := hb.resolve_right (fun h => by simp at h)
    simp -dsimp -implicitDefEqProofs only [go_sem, seval]
    refine AtCode.le ⟨93, tl [(0, .sl 0 0 l.length), (4, I (l.length : Nat)), (5, I (b : Nat))], [(0, ⟨19, l.map ArC⟩)], 1, ⟨[tl [(0, .sl 0 0 l.length)]], some (.mp none)⟩⟩ (Le.tl (Ls := [[(0, .sl 0 0 l.length)]]) [] (by simp -dsimp -implicitDefEqProofs only [go_sem, seval, hb0]) ?_ (by simp) (by simp [sg]) ⟨by simp -dsimp -implicitDefEqProofs only [go_sem, seval], trivial⟩) ?_
    · simp -dsimp -implicitDefEqProofs only [go_sem, seval]
      exact renL_cl rfl ((clArsL _).2 trivial)
    have q1 : 0 ≤ (b : Nat) ∧ b ≤ l.length := by omega
    have q2 : (0 : Nat) ≤ b ∧ b ≤ l.length := by omega
    refine AtCode.draw 7 [([], []), ([], []), ([0, 1], []), ([], []), ([], []), ([3, 4], []), ([0, 1, 2, 3, 4, 5], []), ([0, 1, 2, 3, 4, 5, 6], []), ([0, 1, 2, 3, 4, 5, 6, 7], [])] (by kernel_rfl) ?_
    simp -dsimp -implicitDefEqProofs only [go_sem, seval, Int.natCast_nonneg, Int.toNat_natCast, Nat.zero_add, Nat.zero_le, hbl2, Nat.le_refl, Nat.sub_zero]
    refine AtFn.inl 400 [2] mixed Try.func47 (by kernel_rfl) rfl (by rw [Try.results47]; rfl) (Nat.le_of_ble_eq_true rfl) ?_; rw [Try.ntmps47]
    simp -dsimp -implicitDefEqProofs only [go_sem, seval]
    refine AtLoop.sk (szI l.length b [(0, ⟨19, l.map ArC⟩)]) 2 ⟨by decide, by simp -dsimp -implicitDefEqProofs only [go_sem, seval], by simp -dsimp -implicitDefEqProofs only [go_sem, seval], by simp -dsimp -implicitDefEqProofs only [go_sem, seval], by simp -dsimp -implicitDefEqProofs only [go_sem, seval], by simp -dsimp -implicitDefEqProofs only [go_sem, seval], rfl, rfl⟩ fun m hh tt kk hI => ?_
    obtain ⟨b1, b2, b3, b4, b5, b6, rfl, rfl⟩ := hI
    match m, b1 with
    | 2, _ =>
      have b5' : tt 11 = I 0 := b5
      have b6' : tt 3 = I 0 := b6
      have w1 : wr (0 + ((l.length - b : Nat) : Int)) = ((l.length - b : Nat) : Int) := by rw [wr_in] <;> omega
      have w2 : ¬ ((l.length - b : Nat) : Int) < 0 := by omega
      simp -dsimp -implicitDefEqProofs only [go_sem, seval, b2, b3, b4, b5', b6', w1, w2]
      exact sk_mk (I := szI l.length b [(0, ⟨19, l.map ArC⟩)]) 1 (by decide) ⟨by decide, by simp -dsimp -implicitDefEqProofs only [go_sem, seval, b2], by simp -dsimp -implicitDefEqProofs only [go_sem, seval, b3], by simp -dsimp -implicitDefEqProofs only [go_sem, seval, b4], by simp -dsimp -implicitDefEqProofs only [go_sem, seval]; rfl, by simp -dsimp -implicitDefEqProofs only [go_sem, seval], rfl, rfl⟩
    | 1, _ =>
      have b5' : tt 11 = I 1 := b5
      have b6' : tt 3 = I ((l.length - b : Nat) : Int) := b6
      have w1 : wr (((l.length - b : Nat) : Int) + (b : Nat)) = ((l.length : Nat) : Int) := by rw [wr_in] <;> omega
      have w2 : ¬ ((l.length : Nat) : Int) < 0 := by omega
      simp -dsimp -implicitDefEqProofs only [go_sem, seval, b2, b3, b4, b5', b6', w1, w2]
      exact sk_mk (I := szI l.length b [(0, ⟨19, l.map ArC⟩)]) 0 (by decide) ⟨by decide, by simp -dsimp -implicitDefEqProofs only [go_sem, seval, b2], by simp -dsimp -implicitDefEqProofs only [go_sem, seval, b3], by simp -dsimp -implicitDefEqProofs only [go_sem, seval, b4], by simp -dsimp -implicitDefEqProofs only [go_sem, seval]; rfl, by simp -dsimp -implicitDefEqProofs only [go_sem, seval], rfl, rfl⟩
    | 0, _ =>
      have b5' : tt 11 = I 2 := b5
      have b6' : tt 3 = I ((l.length : Nat) : Int) := b6
      simp -dsimp -implicitDefEqProofs only [go_sem, seval, b2, b3, b4, b5', b6']
      refine AtFn.inl 400 [4] mixed Try.func73 (by kernel_rfl) rfl (by rw [Try.results73]; rfl) (Nat.le_of_ble_eq_true rfl) ?_; rw [Try.ntmps73]
      have w2 : ¬ ((l.length : Nat) : Int) < 0 := by omega
      have w3 : wr (((l.length : Nat) : Int) - 0) = ((l.length : Nat) : Int) := by rw [wr_in] <;> omega
      have w4 : (0 : Int) < ((l.length : Nat) : Int) := by omega
      simp -dsimp -implicitDefEqProofs only [go_sem, seval, w2]
      refine AtOp.cap0 (e := 66) rfl (by kernel_rfl) ?_ ?_
      · simp -dsimp -implicitDefEqProofs (maxSteps := 1000000) only [go_sem, ↓reduceIte, Nat.reduceAdd, Nat.reduceSub, Nat.reduceMul, Nat.reduceLT, Nat.reduceLeDiff, Nat.reduceEqDiff, Nat.reduceBEq, Nat.reduceBNe, Int.reduceToNat, Int.reduceLT, Int.reduceLE, Int.reduceNeg, reduceCtorEq, Int.reduceEq, Int.reduceNe]
      have w5 : wr (0 - 0) = 0 := by decide
      simp -dsimp -implicitDefEqProofs (maxSteps := 1000000) only [go_sem, ↓reduceIte, Nat.reduceAdd, Nat.reduceSub, Nat.reduceMul, Nat.reduceLT, Nat.reduceLeDiff, Nat.reduceEqDiff, Nat.reduceBEq, Nat.reduceBNe, Int.reduceToNat, Int.reduceLT, Int.reduceLE, Int.reduceNeg, reduceCtorEq, Int.reduceEq, Int.reduceNe, w5, w3, w4]
      refine AtOp.cap0 (e := 66) rfl (by kernel_rfl) ?_ ?_
      · simp -dsimp -implicitDefEqProofs only [go_sem, seval]
      simp -dsimp -implicitDefEqProofs only [go_sem, seval]
      refine slE_nil0 (d := 66) (by kernel_rfl) (by rw [sz66]; decide) ?_
      simp -dsimp -implicitDefEqProofs only [go_sem, seval]
      refine AtOp.grow (e := 66) (m := l.length) (zl := zl66) (ik := .i64) rfl (by kernel_rfl) (by kernel_rfl) (by rw [sz66]; decide) (by rw [by66]; decide) (by kernel_rfl) (by rw [sz66]; rfl) ?_ ?_ (by omega) (by omega) ?_
      · simp -dsimp -implicitDefEqProofs only [go_sem, seval]
      · simp -dsimp -implicitDefEqProofs only [go_sem, seval]
      simp -dsimp -implicitDefEqProofs only [go_sem, seval, sz66, Nat.zero_le, Nat.sub_zero, b2]
      refine AtLoop.sk (apI l b) 2 ⟨by decide, by simp -dsimp -implicitDefEqProofs only [go_sem, seval, b2], by simp -dsimp -implicitDefEqProofs only [go_sem, seval], by simp -dsimp -implicitDefEqProofs only [go_sem, seval], by simp -dsimp -implicitDefEqProofs only [go_sem, seval]; rfl, rfl, rfl⟩ fun m hh tt kk hI => ?_
      obtain ⟨b1, b2, b3, b4, b5, rfl, rfl⟩ := hI
      match m, b1 with
      | 2, _ =>
        have b4' : tt 27 = I 0 := b4
        have b5' : tt 6 = .sl 8 0 0 := b5
        have f1 : List.take (l.length - b) (List.drop b l) = List.drop b l := List.take_of_length_le (by simp)
        have f2 : b + (l.length - b) ≤ l.length := by omega
        have f3 : 0 + (List.drop b l).length ≤ 274877906944 := by simp; omega
        simp -dsimp -implicitDefEqProofs only [go_sem, seval, b2, b3, b4', b5', apH, takeD, List.length_map, List.length_replicate, Nat.zero_le, oneAr, Nat.le_refl, f1, f2, f3]
        refine ⟨oneAr _, sk_mk (I := apI l b) 1 (by decide) ⟨by decide, by simp -dsimp -implicitDefEqProofs only [go_sem, seval, b2], by simp -dsimp -implicitDefEqProofs only [go_sem, seval, b3], by simp -dsimp -implicitDefEqProofs only [go_sem, seval]; rfl, by simp -dsimp -implicitDefEqProofs only [go_sem, seval, List.length_drop]; rfl, rfl, rfl⟩⟩
      | 1, _ =>
        have b4' : tt 27 = I 1 := b4
        have b5' : tt 6 = .sl 9 0 (l.length - b) := b5
        have f1 : takeA 0 (l.length - b) ((l.drop b).map ArC) = (l.drop b).map ArC := by rw [takeD, List.drop_zero, List.take_of_length_le (by simp)]
        have f2 : takeA 0 b (l.map ArC) = (l.take b).map ArC := by rw [takeD, List.drop_zero]
        have f3 : 0 + (l.length - b) ≤ ((l.drop b).map ArC).length := by simp
        have f4 : 0 + b ≤ (l.map ArC).length := by simp; omega
        have f5 : ((l.drop b).map ArC).length + ((l.take b).map ArC).length ≤ 274877906944 := by simp; omega
        have f6 : ((l.drop b).map ArC ++ (l.take b).map ArC).length = l.length := by simp; omega
        simp -dsimp -implicitDefEqProofs only [go_sem, seval, b2, b3, b4', b5', apH, f1, f2, f3, f4, f5, f6]
        refine ⟨oneAr _, sk_mk (I := apI l b) 0 (by decide) ⟨by decide, by simp -dsimp -implicitDefEqProofs only [go_sem, seval, b2], by simp -dsimp -implicitDefEqProofs only [go_sem, seval, b3], by simp -dsimp -implicitDefEqProofs only [go_sem, seval]; rfl, by simp -dsimp -implicitDefEqProofs only [go_sem, seval]; rfl, rfl, rfl⟩⟩
      | 0, _ =>
        have b4' : tt 27 = I 2 := b4
        have b5' : tt 6 = .sl 10 0 l.length := b5
        simp -dsimp -implicitDefEqProofs only [go_sem, seval, b2, b3, b4', b5', apH]
        clear b1 b2 b3 b4 b5 b4' b5' tt
        refine ⟨{p : List Ar × List Ar × List Ar // p.1.length + p.2.1.length = l.length ∧ Str p.2.1 p.2.2 ∧ p.1 ++ p.2.2 = r}, fun p => ⟨93, tl [(0, .sl 1 0 l.length), (4, I (l.length : Nat)), (5, I (b : Nat)), (6, .sl 0 0 l.length), (7, I (p.1.1.length : Nat))], [(0, ⟨19, (p.1.1 ++ p.1.2.1).map ArC⟩), (1, ⟨19, l.map ArC⟩)], 2, ⟨[tl [(0, .sl 1 0 l.length)]], some (.mp none)⟩⟩, fun p => p.1.2.1.length,
          ⟨⟨([], l.drop b ++ l.take b, r), by simp; omega, hs, rfl⟩, Le.tl (Ls := [[(0, .sl 1 0 l.length)]]) [(0, 10), (1, 0)] (by simp -dsimp -implicitDefEqProofs only [go_sem, seval]) ?_ (by simp) (by simp [sg]) ⟨by simp -dsimp -implicitDefEqProofs only [go_sem, seval], trivial⟩⟩, fun p => ?_⟩
        · simp -dsimp -implicitDefEqProofs only [go_sem, seval]
          refine ⟨renL_cl2 (by simp) ((clArsL _).2 trivial), renL_cl rfl ((clArsL _).2 trivial)⟩
        obtain ⟨⟨dn, rs, rr⟩, i1, i2, i3⟩ := p
        simp only at i1 i2 i3
        simp -dsimp -implicitDefEqProofs only [go_sem, seval]
        refine ⟨fun h => ?_, fun hout => ?_⟩
        · cases i2 with
          | nil => exact absurd h (by simp only [List.length_nil] at i1; omega)
          | cons x xs m r' hm hm3 hmn hr' =>
            have hcl := chain_le x xs
            obtain ⟨q, hq⟩ : ∃ q, q = chainN x xs := ⟨_, rfl⟩
            have ct := chain_t x xs
            have cf := chain_f x xs
            rw [← hq] at hcl hm hm3 hmn hr' ct cf
            simp only [List.length_cons] at i1
            have hd2 : dn.length < l.length := by omega
            have w0 : wr ((dn.length : Int) + 1) = ((dn.length + 1 + 0 : Nat) : Int) := by rw [wr_in] <;> omega
            have hgd : ∀ j, j < xs.length + 1 → ((dn ++ x :: xs).map ArC)[dn.length + j]? = some (ArC ((x :: xs).getD j zA)) := by
              intro j hj
              have := getAr (l := x :: xs) (i := j) (by simpa using hj)
              rw [List.map_append, List.getElem?_append_right (by simp), List.length_map, Nat.add_sub_cancel_left]
              exact this
            refine ⟨{j : Nat // j ≤ q}, fun j => ⟨93, tl [(0, .sl 1 0 l.length), (4, I (l.length : Nat)), (5, I (b : Nat)), (6, .sl 0 0 l.length), (7, I (dn.length : Nat)), (8, I (dn.length + 1 + j.1 : Nat))], [(0, ⟨19, (dn ++ x :: xs).map ArC⟩), (1, ⟨19, l.map ArC⟩)], 2, ⟨[tl [(0, .sl 1 0 l.length)]], some (.mp none)⟩⟩, fun j => q - j.1,
              ⟨⟨0, by omega⟩, Le.tl (Ls := [[(0, .sl 1 0 l.length)]]) [] (by simp -dsimp -implicitDefEqProofs only [go_sem, seval, w0]) ?_ (by simp) (by simp [sg]) ⟨by simp -dsimp -implicitDefEqProofs only [go_sem, seval], trivial⟩⟩, fun j => ?_⟩
            · simp -dsimp -implicitDefEqProofs only [go_sem, seval]
              exact ⟨renL_cl rfl ((clArsL _).2 trivial), renL_cl rfl ((clArsL _).2 trivial)⟩
            obtain ⟨j, hj⟩ := j
            simp -dsimp -implicitDefEqProofs only [go_sem, seval]
            refine AtCode.draw 15 [([], []), ([], []), ([0, 1], []), ([0, 1, 2], []), ([0, 1, 2, 3], []), ([0, 1, 2, 3], []), ([0, 1, 2, 3, 5], []), ([0, 1, 2, 3, 4, 5, 6], []), ([0, 1, 2, 3, 4, 5, 6, 7], []), ([0, 1, 2, 3], []), ([0, 1, 2, 3], []), ([0, 1, 2, 3, 9, 10], []), ([0, 1, 2, 3, 9, 10, 11], []), ([0, 1, 2, 3, 4, 5, 6, 7, 8, 9, 10, 11, 12], []), ([0, 1, 2, 3, 4, 5, 6, 7, 8, 9, 10, 11, 12, 13], [])] (by kernel_rfl) ?_
            have w1 : wr (((dn.length + 1 + j : Nat) : Int) - 1) = ((dn.length + j : Nat) : Int) := by rw [wr_in] <;> omega
            have w2 : wr (((dn.length + 1 + j : Nat) : Int) + 1) = ((dn.length + 1 + (j + 1) : Nat) : Int) := by rw [wr_in] <;> omega
            have hg0 := hgd j (by omega)
            have hgo := goes45 ((x :: xs).getD j zA) ((x :: xs).getD (j + 1) zA)
            by_cases hjq : j = q
            · subst hjq
              by_cases hend : dn.length + 1 + j < l.length
              · have hg1 := hgd (j + 1) (by omega)
                rw [show dn.length + (j + 1) = dn.length + 1 + j by omega] at hg1
                have c1 : ((dn.length + 1 + j : Nat) : Int) < ((l.length : Nat) : Int) := by omega
                have c2 : ((dn.length + j : Nat) : Int) < ((l.length : Nat) : Int) := by omega
                have hgf := cf (by omega)
                rw [hgf] at hgo
                simp -dsimp -implicitDefEqProofs only [go_sem, seval, c1, c2, w1, Int.toNat_natCast, Int.natCast_nonneg, Nat.zero_add, hg0, hg1]
                refine QFn.use _ hgo (by simp -dsimp -implicitDefEqProofs only [go_sem, seval]) ?_
                have c4 : ((dn.length : Nat) : Int) < ((l.length : Nat) : Int) := by omega
                have hgx := hgd 0 (by omega)
                simp only [List.getD_cons_zero, Nat.add_zero] at hgx
                have hlen : (dn ++ m).length = dn.length + 1 + j := by rw [List.length_append, hm]; omega
                have hla : (dn ++ m).length + (xs.drop j).length = l.length := by rw [hlen, List.length_drop]; omega
                have hra : dn ++ m ++ r' = r := by rw [List.append_assoc]; exact i3
                have hlt : (xs.drop j).length < (x :: xs).length := by rw [List.length_drop, List.length_cons]; omega
                by_cases hx3 : x.a.op = 3
                · have hblk : dn ++ x :: xs = dn ++ m ++ xs.drop j := by rw [hm3 hx3, List.append_assoc, List.cons_append, List.take_append_drop]
                  simp -dsimp -implicitDefEqProofs only [go_sem, seval, c4, Int.toNat_natCast, Int.natCast_nonneg, Nat.zero_add, hgx, hx3]
                  refine ⟨⟨(dn ++ m, xs.drop j, r'), hla, hr', hra⟩, hlt, Le.tl (Ls := [[(0, .sl 1 0 l.length)]]) [] (by simp -dsimp -implicitDefEqProofs only [go_sem, seval, hlen]) ?_ (by simp) (by simp [sg]) ⟨by simp -dsimp -implicitDefEqProofs only [go_sem, seval], trivial⟩⟩
                  simp -dsimp -implicitDefEqProofs only [go_sem, seval]
                  exact ⟨renL_cl2 (by rw [hblk]) ((clArsL _).2 trivial), renL_cl rfl ((clArsL _).2 trivial)⟩
                · have hf := (hmn hx3).2 dn (xs.drop j) (by rw [List.length_cons, List.length_take, List.length_drop]; omega)
                  rw [show (x :: xs.take j).length = j + 1 by rw [List.length_cons, List.length_take]; omega, show dn ++ (x :: xs.take j) ++ xs.drop j = dn ++ x :: xs by rw [List.append_assoc, List.cons_append, List.take_append_drop]] at hf
                  simp -dsimp -implicitDefEqProofs only [go_sem, seval, c4, Int.toNat_natCast, Int.natCast_nonneg, Nat.zero_add, hgx, hx3]
                  refine ⟨⟨by omega, by omega⟩, ?_⟩
                  rw [show dn.length + 1 + j - dn.length = j + 1 by omega]
                  refine AtFn.le ⟨93, tl [(0, .sl 1 0 l.length), (4, I (l.length : Nat)), (5, I (b : Nat)), (6, .sl 0 0 l.length), (7, I (dn.length : Nat)), (8, I (dn.length + 1 + j : Nat)), (78, .sl 0 dn.length (j + 1))], [(0, ⟨19, (dn ++ x :: xs).map ArC⟩), (1, ⟨19, l.map ArC⟩)], 2, ⟨[tl [(0, .sl 1 0 l.length)]], some (.mp none)⟩⟩ [.sl 0 dn.length (j + 1)] (Le.tl (Ls := [[(0, .sl 1 0 l.length)]]) [] (by simp -dsimp -implicitDefEqProofs only [go_sem, seval]) ?_ (by simp) (by simp [sg]) ⟨by simp -dsimp -implicitDefEqProofs only [go_sem, seval], trivial⟩)
                    (by intro fo xs ts h; cases h; exact ⟨by simp -dsimp -implicitDefEqProofs only [go_sem, seval], by simp -dsimp -implicitDefEqProofs only [go_sem, seval]⟩) ?_
                  · simp -dsimp -implicitDefEqProofs only [go_sem, seval]
                    exact ⟨renL_cl rfl ((clArsL _).2 trivial), renL_cl rfl ((clArsL _).2 trivial)⟩
                  refine AtFn.m' (h0 := [(0, ⟨19, (dn ++ x :: xs).map ArC⟩)]) (hr := [(1, ⟨19, l.map ArC⟩)]) (k' := 2) id hf (MOk.id (Ls := [[(0, .sl 1 0 l.length)]]) (by simp) (by simp -dsimp -implicitDefEqProofs only [go_sem, seval, id_eq]) ?_ (by simp -dsimp -implicitDefEqProofs only [go_sem, seval, id_eq]) (by simp -dsimp -implicitDefEqProofs only [go_sem, seval, id_eq]) ?_ (by simp) ?_ (.cl (by simp [Cl_t])) (by simp) (by simp) (by simp)) ?_
                  · simp -dsimp -implicitDefEqProofs only [go_sem, seval, id_eq]
                    exact renL_cl rfl ((clArsL _).2 trivial)
                  · simp -dsimp -implicitDefEqProofs only [go_sem, seval, id_eq]
                    exact renL_cl rfl ((clArsL _).2 trivial)
                  · simp -dsimp -implicitDefEqProofs only [go_sem, seval, id_eq]
                    exact renL_cl rfl ((clArsL _).2 trivial)
                  simp -dsimp -implicitDefEqProofs only [go_sem, seval]
                  refine ⟨⟨(dn ++ m, xs.drop j, r'), hla, hr', hra⟩, hlt, Le.tl (Ls := [[(0, .sl 1 0 l.length)]]) [] (by simp -dsimp -implicitDefEqProofs only [go_sem, seval, hlen]) ?_ (by simp) (by simp [sg]) ⟨by simp -dsimp -implicitDefEqProofs only [go_sem, seval], trivial⟩⟩
                  simp -dsimp -implicitDefEqProofs only [go_sem, seval]
                  exact ⟨renL_cl rfl ((clArsL _).2 trivial), renL_cl rfl ((clArsL _).2 trivial)⟩
              · have c1 : ¬ ((dn.length + 1 + j : Nat) : Int) < ((l.length : Nat) : Int) := by omega
                simp -dsimp -implicitDefEqProofs only [go_sem, seval, c1]
                have c4 : ((dn.length : Nat) : Int) < ((l.length : Nat) : Int) := by omega
                have hgx := hgd 0 (by omega)
                simp only [List.getD_cons_zero, Nat.add_zero] at hgx
                have hlen : (dn ++ m).length = dn.length + 1 + j := by rw [List.length_append, hm]; omega
                have hla : (dn ++ m).length + (xs.drop j).length = l.length := by rw [hlen, List.length_drop]; omega
                have hra : dn ++ m ++ r' = r := by rw [List.append_assoc]; exact i3
                have hlt : (xs.drop j).length < (x :: xs).length := by rw [List.length_drop, List.length_cons]; omega
                by_cases hx3 : x.a.op = 3
                · have hblk : dn ++ x :: xs = dn ++ m ++ xs.drop j := by rw [hm3 hx3, List.append_assoc, List.cons_append, List.take_append_drop]
                  simp -dsimp -implicitDefEqProofs only [go_sem, seval, c4, Int.toNat_natCast, Int.natCast_nonneg, Nat.zero_add, hgx, hx3]
                  refine ⟨⟨(dn ++ m, xs.drop j, r'), hla, hr', hra⟩, hlt, Le.tl (Ls := [[(0, .sl 1 0 l.length)]]) [] (by simp -dsimp -implicitDefEqProofs only [go_sem, seval, hlen]) ?_ (by simp) (by simp [sg]) ⟨by simp -dsimp -implicitDefEqProofs only [go_sem, seval], trivial⟩⟩
                  simp -dsimp -implicitDefEqProofs only [go_sem, seval]
                  exact ⟨renL_cl2 (by rw [hblk]) ((clArsL _).2 trivial), renL_cl rfl ((clArsL _).2 trivial)⟩
                · have hf := (hmn hx3).2 dn (xs.drop j) (by rw [List.length_cons, List.length_take, List.length_drop]; omega)
                  rw [show (x :: xs.take j).length = j + 1 by rw [List.length_cons, List.length_take]; omega, show dn ++ (x :: xs.take j) ++ xs.drop j = dn ++ x :: xs by rw [List.append_assoc, List.cons_append, List.take_append_drop]] at hf
                  simp -dsimp -implicitDefEqProofs only [go_sem, seval, c4, Int.toNat_natCast, Int.natCast_nonneg, Nat.zero_add, hgx, hx3]
                  refine ⟨⟨by omega, by omega⟩, ?_⟩
                  rw [show dn.length + 1 + j - dn.length = j + 1 by omega]
                  refine AtFn.le ⟨93, tl [(0, .sl 1 0 l.length), (4, I (l.length : Nat)), (5, I (b : Nat)), (6, .sl 0 0 l.length), (7, I (dn.length : Nat)), (8, I (dn.length + 1 + j : Nat)), (78, .sl 0 dn.length (j + 1))], [(0, ⟨19, (dn ++ x :: xs).map ArC⟩), (1, ⟨19, l.map ArC⟩)], 2, ⟨[tl [(0, .sl 1 0 l.length)]], some (.mp none)⟩⟩ [.sl 0 dn.length (j + 1)] (Le.tl (Ls := [[(0, .sl 1 0 l.length)]]) [] (by simp -dsimp -implicitDefEqProofs only [go_sem, seval]) ?_ (by simp) (by simp [sg]) ⟨by simp -dsimp -implicitDefEqProofs only [go_sem, seval], trivial⟩)
                    (by intro fo xs ts h; cases h; exact ⟨by simp -dsimp -implicitDefEqProofs only [go_sem, seval], by simp -dsimp -implicitDefEqProofs only [go_sem, seval]⟩) ?_
                  · simp -dsimp -implicitDefEqProofs only [go_sem, seval]
                    exact ⟨renL_cl rfl ((clArsL _).2 trivial), renL_cl rfl ((clArsL _).2 trivial)⟩
                  refine AtFn.m' (h0 := [(0, ⟨19, (dn ++ x :: xs).map ArC⟩)]) (hr := [(1, ⟨19, l.map ArC⟩)]) (k' := 2) id hf (MOk.id (Ls := [[(0, .sl 1 0 l.length)]]) (by simp) (by simp -dsimp -implicitDefEqProofs only [go_sem, seval, id_eq]) ?_ (by simp -dsimp -implicitDefEqProofs only [go_sem, seval, id_eq]) (by simp -dsimp -implicitDefEqProofs only [go_sem, seval, id_eq]) ?_ (by simp) ?_ (.cl (by simp [Cl_t])) (by simp) (by simp) (by simp)) ?_
                  · simp -dsimp -implicitDefEqProofs only [go_sem, seval, id_eq]
                    exact renL_cl rfl ((clArsL _).2 trivial)
                  · simp -dsimp -implicitDefEqProofs only [go_sem, seval, id_eq]
                    exact renL_cl rfl ((clArsL _).2 trivial)
                  · simp -dsimp -implicitDefEqProofs only [go_sem, seval, id_eq]
                    exact renL_cl rfl ((clArsL _).2 trivial)
                  simp -dsimp -implicitDefEqProofs only [go_sem, seval]
                  refine ⟨⟨(dn ++ m, xs.drop j, r'), hla, hr', hra⟩, hlt, Le.tl (Ls := [[(0, .sl 1 0 l.length)]]) [] (by simp -dsimp -implicitDefEqProofs only [go_sem, seval, hlen]) ?_ (by simp) (by simp [sg]) ⟨by simp -dsimp -implicitDefEqProofs only [go_sem, seval], trivial⟩⟩
                  simp -dsimp -implicitDefEqProofs only [go_sem, seval]
                  exact ⟨renL_cl rfl ((clArsL _).2 trivial), renL_cl rfl ((clArsL _).2 trivial)⟩
            · have hg1 := hgd (j + 1) (by omega)
              rw [show dn.length + (j + 1) = dn.length + 1 + j by omega] at hg1
              have c1 : ((dn.length + 1 + j : Nat) : Int) < ((l.length : Nat) : Int) := by omega
              have c2 : ((dn.length + j : Nat) : Int) < ((l.length : Nat) : Int) := by omega
              have hgt := ct j (by omega)
              rw [hgt] at hgo
              simp -dsimp -implicitDefEqProofs only [go_sem, seval, c1, c2, w1, Int.toNat_natCast, Int.natCast_nonneg, Nat.zero_add, hg0, hg1]
              refine QFn.use _ hgo (by simp -dsimp -implicitDefEqProofs only [go_sem, seval]) ?_
              simp -dsimp -implicitDefEqProofs only [go_sem, seval, w2]
              refine ⟨⟨j + 1, by omega⟩, by show q - (j + 1) < q - j; omega, Le.tl (Ls := [[(0, .sl 1 0 l.length)]]) [] (by simp -dsimp -implicitDefEqProofs only [go_sem, seval, w2]) ?_ (by simp) (by simp [sg]) ⟨by simp -dsimp -implicitDefEqProofs only [go_sem, seval], trivial⟩⟩
              simp -dsimp -implicitDefEqProofs only [go_sem, seval]
              exact ⟨renL_cl rfl ((clArsL _).2 trivial), renL_cl rfl ((clArsL _).2 trivial)⟩
        · have hrs : rs = [] := by
            cases rs with
            | nil => rfl
            | cons y ys => exact absurd hout (by simp only [List.length_cons] at i1; simp; omega)
          subst hrs
          have hrr : rr = [] := List.eq_nil_of_length_eq_zero (by rw [i2.len]; rfl)
          subst hrr
          rw [List.append_nil] at i3
          subst i3
          rw [List.append_nil]
          simp only [List.length_nil, Nat.add_zero] at i1
          have t1 : 0 ≤ ((b : Nat) : Int) := by omega
          simp -dsimp -implicitDefEqProofs only [go_sem, seval, Int.natCast_nonneg, Int.toNat_natCast, hbl2, Nat.le_refl, Nat.zero_add]
          refine AtOp.copy (e := 66) (n := 1) (i := b) (len := l.length - b) (b := ⟨19, l.map ArC⟩) (l := dn.map ArC) rfl (by kernel_rfl) (by rw [sz66]; decide) ?_ rfl (by rw [sz66]) (by simp; omega) ?_ ?_ (oneAr _) fun h' hh' => ?_
          · simp -dsimp -implicitDefEqProofs only [go_sem, seval]
          · rw [sz66]
            simp -dsimp -implicitDefEqProofs only [go_sem, seval]
            exact ⟨rfl, by rw [List.length_map]; omega, by rw [takeD, List.drop_zero, List.take_of_length_le (by omega)]⟩
          · simp -dsimp -implicitDefEqProofs only [go_sem, seval]
          subst hh'
          have hB : List.take b (l.map ArC) ++ List.take (l.length - b) (dn.map ArC) ++ List.drop (b + min (dn.map ArC).length (l.length - b)) (l.map ArC) = (l.take b ++ dn.take (l.length - b)).map ArC := by
            rw [List.drop_eq_nil_of_le (by simp; omega), List.append_nil, List.map_append, List.map_take, List.map_take]
          have w9 : wr (((l.length : Nat) : Int) - (b : Nat)) = ((l.length - b : Nat) : Int) := by rw [wr_in] <;> omega
          have hsb : l.length - b ≤ l.length := by omega
          have hsb2 : l.length - (l.length - b) = b := by omega
          have hBl : (l.take b ++ dn.take (l.length - b)).length = l.length := by simp; omega
          simp -dsimp -implicitDefEqProofs only [go_sem, seval, hB, w9, Int.natCast_nonneg, Int.toNat_natCast, hsb, Nat.le_refl, Nat.zero_add, hsb2]
          refine AtOp.copy (e := 66) (n := 1) (i := 0) (len := l.length) (b := ⟨19, (l.take b ++ dn.take (l.length - b)).map ArC⟩) (l := (dn.drop (l.length - b)).map ArC) rfl (by kernel_rfl) (by rw [sz66]; decide) ?_ rfl (by rw [sz66]) (by rw [List.length_map, hBl]; omega) ?_ ?_ (oneAr _) fun h' hh' => ?_
          · simp -dsimp -implicitDefEqProofs only [go_sem, seval]
          · rw [sz66]
            simp -dsimp -implicitDefEqProofs only [go_sem, seval]
            exact ⟨rfl, by rw [List.length_map]; omega, by rw [takeD, List.take_of_length_le (by simp; omega)]⟩
          · simp -dsimp -implicitDefEqProofs only [go_sem, seval]
          subst hh'
          have e1 : min ((dn.drop (l.length - b)).map ArC).length l.length = b := by rw [List.length_map, List.length_drop]; omega
          have e2 : (l.take b).length = b := by rw [List.length_take]; omega
          have e3 : (l.take b ++ dn.take (l.length - b)).drop b = dn.take (l.length - b) := by rw [List.drop_append_of_le_length (by omega), List.drop_eq_nil_of_le (by omega), List.nil_append]
          have e4 : List.drop b ((l.take b ++ dn.take (l.length - b)).map ArC) = (dn.take (l.length - b)).map ArC := by rw [← List.map_drop, e3]
          have e5 : List.take l.length ((dn.drop (l.length - b)).map ArC) = (dn.drop (l.length - b)).map ArC := List.take_of_length_le (by rw [List.length_map, List.length_drop]; omega)
          have hC : List.take l.length ((dn.drop (l.length - b)).map ArC) ++ List.drop (0 + min ((dn.drop (l.length - b)).map ArC).length l.length) ((l.take b ++ dn.take (l.length - b)).map ArC) = (dn.drop (l.length - b) ++ dn.take (l.length - b)).map ArC := by
            rw [e1, Nat.zero_add, e4, e5, List.map_append]
          have hne : (dn.drop (l.length - b) ++ dn.take (l.length - b)).map ArC ≠ [] := by
            intro hc
            have := congrArg List.length hc
            rw [List.length_map, List.length_append, List.length_drop, List.length_take, List.length_nil] at this
            omega
          have hne2 : l.map ArC ≠ [] := by
            intro hc
            have := congrArg List.length hc
            rw [List.length_map, List.length_nil] at this
            omega
          obtain ⟨n1, hn1⟩ : ∃ n1, l.length = n1 + 1 := ⟨l.length - 1, by omega⟩
          simp -dsimp -implicitDefEqProofs only [go_sem, seval, hC]
          refine FinM2.mkv [(0, 1)] [(0, .sl 0 0 l.length)] ?_ ?_ ?_ ?_ ?_
          · simp -dsimp -implicitDefEqProofs only [go_sem, seval]
            exact renL_cl rfl ((clArsL _).2 trivial)
          · simp
          · simp [sg]
          · simp -dsimp -implicitDefEqProofs only [go_sem, seval]
          · simp only [List.mem_singleton, forall_eq]
            rw [hn1]
            exact ⟨0, 0, n1, _, _, rfl, by simp -dsimp -implicitDefEqProofs only [go_sem, seval], rfl, rfl, rfl, hne2, by rw [hn1] at hne; exact hne⟩
end

section
set_option maxRecDepth 20000
attribute [local go_sem] eqk27' clKnsL clArsL
abbrev nilS : AV := .v (.slice none 0 0)
theorem segs_set (l : List Kn) (c : Bool) : segs (settledW l c) c = segs l c := by unfold segs; rw [settled_len]
theorem valid_segs {l : List Kn} {c : Bool} (h : validK l c = true) : segs l c ≤ 200 := by
  simp only [validK, Bool.and_eq_true, decide_eq_true_eq] at h
  exact h.1.1.2
def arcs0 (l : List Kn) (c : Bool) : List Ar := arcsW (settledW l c) c
theorem arcs0_len (l : List Kn) (c : Bool) : (arcs0 l c).length = segs l c := by
  unfold arcs0 arcsW
  rw [List.length_map, List.length_range, segs_set]
theorem takeKn2 (l : List Kn) (n : Nat) (h : l.length ≤ n) : takeA 0 n (l.map KnC) = l.map KnC := by rw [takeA_eq, List.drop_zero, List.take_of_length_le (by simpa using h)]
abbrev UvC (r : Ar) : List AV := [I r.u, I r.v]
theorem clUv (l : List Ar) : ∀ c ∈ l.map UvC, ∀ s ∈ c, Cl s := by
  intro c hc s hs
  obtain ⟨k, _, rfl⟩ := List.mem_map.1 hc
  simp at hs
  rcases hs with rfl | rfl <;> exact .v _
theorem clUvR (l : List Ar) : Cl (.ro 2 (l.map UvC)) ↔ True := iff_true_intro (.ro (clUv l))
attribute [local go_sem] clUvR
structure Slv (l : List Kn) (c : Bool) (rs : List Ar) : Prop where
  len : rs.length = segs l c
  run : MFun Try.prog 27 [.sl 0 0 (segs l c), Bo c] [(0, ⟨19, (arcs0 l c).map ArC⟩)] 1 none [0] (.t []) [(0, ⟨19, rs.map ArC⟩)] 1 none
  pos : 1 ≤ segs l c
theorem Slv.of {l : List Kn} {c : Bool} {rs : List Ar} (hsg : segs l c ≤ 200) (h4 : 1 ≤ segs l c) (h : ∃ b r, Beg (arcs0 l c) c b ∧ Str ((arcs0 l c).drop b ++ (arcs0 l c).take b) r ∧ rs = r.drop ((arcs0 l c).length - b) ++ r.take ((arcs0 l c).length - b)) : Slv l c rs := by
  obtain ⟨b, r, h1, h2, rfl⟩ := h
  refine ⟨?_, ?_, h4⟩
  · have := h2.len
    simp only [List.length_append, List.length_drop, List.length_take, arcs0_len] at this ⊢
    omega
  · have := solve27 (arcs0 l c) r c b (by rw [arcs0_len]; exact h4) (by rw [arcs0_len]; exact hsg) h1 h2
    rwa [arcs0_len] at this ⊢
theorem solveS {l : List Kn} {c : Bool} {rs : List Ar} (_ : validK l c = true) (h : Slv l c rs) :
    MFun Try.prog 27 [.sl 0 0 (segs l c), Bo c] [(0, ⟨19, (arcs0 l c).map ArC⟩)] 1 none [0] (.t []) [(0, ⟨19, rs.map ArC⟩)] 1 none := h.run
set_option maxHeartbeats 2000000 in
theorem angles14 (l : List Kn) (c : Bool) (rs : List Ar) (hv : validK l c = true) (h : Slv l c rs) : PFun Try.prog 14 [Kns l, Bo c] (.t [.ro 2 (rs.map UvC), I 0]) := by
  obtain ⟨hl1, hl2⟩ := valid_len hv
  have hsl := solveS hv h
  have hrl := h.len
  have hpos := h.pos
  have hsg := valid_segs hv
  have hvl := valid17 l c (by omega)
  rw [hv] at hvl
  have hset := settled26 l c hv
  have harc := arcs25 (settledW l c) c (by rw [settled_len]; exact hl1) (by rw [settled_len]; exact hl2) (settled_b (valid_b hv) (by omega))
  change NFun Try.prog 25 _ 19 ((arcs0 l c).map ArC) at harc
  have hal := arcs0_len l c
  obtain ⟨n, hn⟩ : ∃ n, n = segs l c := ⟨_, rfl⟩
  rw [← hn] at hsl hrl hpos hsg hal
  refine PFun.introM 400 mixed Try.func14 (by kernel_rfl) rfl ((by simp [Cl_t, Cl_v]; exact (clUvR rs).2 trivial)) (Nat.le_of_ble_eq_true rfl) ?_; rw [Try.ntmps14, Try.results14]
  simp -dsimp -implicitDefEqProofs only [go_sem, seval]
  refine AtFn.pure0 hvl ?_
  simp -dsimp -implicitDefEqProofs only [go_sem, seval]
  refine AtFn.new hset ?_
  simp -dsimp -implicitDefEqProofs only [go_sem, seval, List.length_map, settled_len]
  refine AtFn.new harc ?_
  simp -dsimp -implicitDefEqProofs only [go_sem, seval, List.length_map, settled_len, takeKn2, Nat.le_refl, Nat.zero_add]
  rw [hal]
  refine AtFn.le ⟨38, tl [(6, .sl 0 0 n), (19, .sl 0 0 n), (20, Bo c)], [(0, ⟨19, (arcs0 l c).map ArC⟩)], 1, ⟨[], some (.mp none)⟩⟩ [.sl 0 0 n, Bo c] (Le.tl (Ls := []) [(0, 1)] (by simp -dsimp -implicitDefEqProofs only [go_sem, seval]) ?_ (by simp) (by simp [sg]) trivial)
    (by intro fo xs ts h; cases h; exact ⟨by simp -dsimp -implicitDefEqProofs only [go_sem, seval], by simp -dsimp -implicitDefEqProofs only [go_sem, seval]⟩) ?_
  · simp -dsimp -implicitDefEqProofs only [go_sem, seval]
    exact renL_cl rfl ((clArsL _).2 trivial)
  refine AtFn.m' (h0 := [(0, ⟨19, (arcs0 l c).map ArC⟩)]) (hr := []) (k' := 1) id hsl (MOk.id (Ls := []) (by simp) (by simp -dsimp -implicitDefEqProofs only [go_sem, seval, id_eq]) ?_ (by simp -dsimp -implicitDefEqProofs only [go_sem, seval, id_eq]) (by simp) (by simp) (by simp) ?_ (.cl (by simp [Cl_t])) (by simp) (by simp) (by simp)) ?_
  · simp -dsimp -implicitDefEqProofs only [go_sem, seval, id_eq]
    exact renL_cl rfl ((clArsL _).2 trivial)
  · simp -dsimp -implicitDefEqProofs only [go_sem, seval, id_eq]
    exact renL_cl rfl ((clArsL _).2 trivial)
  simp -dsimp -implicitDefEqProofs only [go_sem, seval]
  refine ⟨{i : Nat // i ≤ n}, fun i => ⟨38, tl [(7, .sl 1 0 i.1), (22, .sl 0 0 n), (23, I (n : Nat)), (24, I i.1)], [(0, ⟨19, rs.map ArC⟩), (1, ⟨2, (rs.take i.1).map UvC⟩)], 2, ⟨[], some (.mp none)⟩⟩, fun i => n - i.1,
    ⟨⟨0, by omega⟩, Le.tl0 (Ls := []) [(1, 1)] (by simp -dsimp -implicitDefEqProofs only [go_sem, seval]) ?_ (by simp) (by simp [sg]) trivial⟩, fun i => ?_⟩
  · simp -dsimp -implicitDefEqProofs only [go_sem, seval]
    exact renL_cl rfl ((clArsL _).2 trivial)
  obtain ⟨i, hi⟩ := i
  simp -dsimp -implicitDefEqProofs only [go_sem, seval, List.length_map]
  refine ⟨fun h0 => ?_, fun hout => ?_⟩
  · have hin : i < n := by omega
    have e3 : wr ((i : Int) + 1) = ((i + 1 : Nat) : Int) := by rw [wr_in] <;> omega
    have c1 : (i : Int) < ((n : Nat) : Int) := by omega
    have hg := getAr (l := rs) (i := i) (by omega)
    have hga := getA (l := rs) (i := i) (by omega)
    obtain ⟨z, hz⟩ : ∃ z, z = rs.getD i zA := ⟨_, rfl⟩
    rw [← hz] at hg hga
    have f1 : takeA 0 i ((rs.take i).map UvC) = (rs.take i).map UvC := by rw [takeA_eq, List.drop_zero, List.take_of_length_le (by simp; omega)]
    have f2 : (rs.take i).map UvC ++ [[AV.v (.int .i64 z.u), AV.v (.int .i64 z.v)]] = (rs.take (i + 1)).map UvC := by rw [List.take_add_one, hga, List.map_append]; rfl
    have f3 : ((rs.take (i + 1)).map UvC).length = i + 1 := by simp; omega
    have f4 : i ≤ ((rs.take i).map UvC).length := by simp; omega
    have f5 : ((rs.take i).map UvC).length ≤ 274877906943 := by simp; omega
    simp -dsimp -implicitDefEqProofs only [go_sem, seval, c1, Int.toNat_natCast, Int.natCast_nonneg, Nat.zero_add, hg, f1, f2, f3, f4, f5]
    refine ⟨⟨i + 1, by omega⟩, by show n - (i + 1) < n - i; omega, Le.tl (Ls := []) [(1, 4)] (by simp -dsimp -implicitDefEqProofs only [go_sem, seval, e3]) ?_ (by simp) (by simp [sg]) trivial⟩
    simp -dsimp -implicitDefEqProofs only [go_sem, seval]
    exact ⟨renL_cl rfl ((clArsL _).2 trivial), renL_cl rfl (clUv _)⟩
  · have : i = n := by omega
    subst this
    have f1 : (rs.take i).map UvC = rs.map UvC := by rw [List.take_of_length_le (by omega)]
    have f2 : takeA 0 i (rs.map UvC) = rs.map UvC := by rw [takeA_eq, List.drop_zero, List.take_of_length_le (by simp; omega)]
    rw [f1]
    simp -dsimp -implicitDefEqProofs only [go_sem, seval, f2, List.length_map]
    rw [if_pos (by simp; omega)]
theorem arcs0_nil {l : List Kn} {c : Bool} (h : segs l c = 0) : arcs0 l c = [] := List.eq_nil_of_length_eq_zero (by rw [arcs0_len]; exact h)
theorem segs0_c {l : List Kn} {c : Bool} (hl : 1 ≤ l.length) (h : segs l c = 0) : c = false := by
  cases c with
  | true => exact absurd h (by show l.length ≠ 0; omega)
  | false => rfl
end

section
set_option maxRecDepth 20000
attribute [local go_sem] eqk27' clKnsL clArsL clUvR
theorem solve27_0 : PFun Try.prog 27 [.ro 19 [], Bo false] (.t []) := by
  refine PFun.introM 400 mixed Try.func27 (by kernel_rfl) rfl (by first | exact .v _ | (simp [Cl_v, Cl_t, Cl_g, Cl_fn, Cl_rp, Cl_ro]; done) | (simp [Cl_v, Cl_t, Cl_g, Cl_fn, Cl_rp, Cl_ro, or_imp, forall_and]; done) | (split <;> simp [Cl_v, Cl_t, Cl_g, Cl_fn, Cl_rp, Cl_ro])) (Nat.le_of_ble_eq_true rfl) ?_; rw [Try.ntmps27, Try.results27]
  simp -dsimp -implicitDefEqProofs only [go_sem, seval, true_implies]
  refine AtCode.draw 7 [([], []), ([], []), ([0, 1], []), ([], []), ([], []), ([3, 4], []), ([0, 1, 2, 3, 4, 5], []), ([0, 1, 2, 3, 4, 5, 6], []), ([0, 1, 2, 3, 4, 5, 6, 7], [])] (by kernel_rfl) ?_
  simp -dsimp -implicitDefEqProofs only [go_sem, seval, Nat.zero_le, Nat.le_refl, Nat.sub_zero, Nat.add_zero, Nat.zero_add, List.take_nil, List.drop_nil]
  refine AtFn.inl 400 [2] mixed Try.func47 (by kernel_rfl) rfl (by rw [Try.results47]; rfl) (Nat.le_of_ble_eq_true rfl) ?_; rw [Try.ntmps47]
  simp -dsimp -implicitDefEqProofs only [go_sem, seval]
  refine ⟨{i : Nat // i ≤ 2}, fun i => ⟨36, tl [(0, .ro 1 [[.ro 19 []], [.ro 19 []]]), (9, .ro 1 [[.ro 19 []], [.ro 19 []]]), (10, I 2), (11, I i.1), (3, I 0)], [], 0, ⟨[tl [(0, .ro 19 []), (4, I 0), (5, I 0)]], some (.mp none)⟩⟩, fun i => 2 - i.1,
    ⟨⟨0, by omega⟩, Le.tl (Ls := [[(0, .ro 19 []), (4, I 0), (5, I 0)]]) [] (by simp -dsimp -implicitDefEqProofs (maxSteps := 1000000) only [go_sem, ↓reduceIte, Nat.reduceAdd, Nat.reduceSub, Nat.reduceMul, Nat.reduceLT, Nat.reduceLeDiff, Nat.reduceEqDiff, Nat.reduceBEq, Nat.reduceBNe, Int.reduceToNat, Int.reduceLT, Int.reduceLE, Int.reduceNeg, reduceCtorEq, Int.reduceEq, Int.reduceNe]) (by simp) (by simp) (by simp) ⟨by simp -dsimp -implicitDefEqProofs (maxSteps := 1000000) only [go_sem, ↓reduceIte, Nat.reduceAdd, Nat.reduceSub, Nat.reduceMul, Nat.reduceLT, Nat.reduceLeDiff, Nat.reduceEqDiff, Nat.reduceBEq, Nat.reduceBNe, Int.reduceToNat, Int.reduceLT, Int.reduceLE, Int.reduceNeg, reduceCtorEq, Int.reduceEq, Int.reduceNe], trivial⟩⟩, fun i => ?_⟩
  obtain ⟨i, hi⟩ := i
  match i, hi with
  | 0, _ =>
    simp -dsimp -implicitDefEqProofs (maxSteps := 1000000) only [go_sem, ↓reduceIte, Nat.reduceAdd, Nat.reduceSub, Nat.reduceMul, Nat.reduceLT, Nat.reduceLeDiff, Nat.reduceEqDiff, Nat.reduceBEq, Nat.reduceBNe, Int.reduceToNat, Int.reduceLT, Int.reduceLE, Int.reduceNeg, reduceCtorEq, Int.reduceEq, Int.reduceNe, Int.natCast_zero, show wr (0 + 0) = 0 by decide, Nat.add_zero]
    exact ⟨⟨1, by decide⟩, by decide, Le.tl (Ls := [[(0, .ro 19 []), (4, I 0), (5, I 0)]]) [] (by simp -dsimp -implicitDefEqProofs (maxSteps := 1000000) only [go_sem, ↓reduceIte, Nat.reduceAdd, Nat.reduceSub, Nat.reduceMul, Nat.reduceLT, Nat.reduceLeDiff, Nat.reduceEqDiff, Nat.reduceBEq, Nat.reduceBNe, Int.reduceToNat, Int.reduceLT, Int.reduceLE, Int.reduceNeg, reduceCtorEq, Int.reduceEq, Int.reduceNe]; rfl) (by simp) (by simp) (by simp) ⟨by simp -dsimp -implicitDefEqProofs (maxSteps := 1000000) only [go_sem, ↓reduceIte, Nat.reduceAdd, Nat.reduceSub, Nat.reduceMul, Nat.reduceLT, Nat.reduceLeDiff, Nat.reduceEqDiff, Nat.reduceBEq, Nat.reduceBNe, Int.reduceToNat, Int.reduceLT, Int.reduceLE, Int.reduceNeg, reduceCtorEq, Int.reduceEq, Int.reduceNe], trivial⟩⟩
  | 1, _ =>
    have e1 : ((1 : Nat) : Int) = 1 := rfl
    simp -dsimp -implicitDefEqProofs (maxSteps := 1000000) only [go_sem, ↓reduceIte, Nat.reduceAdd, Nat.reduceSub, Nat.reduceMul, Nat.reduceLT, Nat.reduceLeDiff, Nat.reduceEqDiff, Nat.reduceBEq, Nat.reduceBNe, Int.reduceToNat, Int.reduceLT, Int.reduceLE, Int.reduceNeg, reduceCtorEq, Int.reduceEq, Int.reduceNe, e1, show wr (0 + 0) = 0 by decide, Nat.add_zero]
    exact ⟨⟨2, by decide⟩, by decide, Le.tl (Ls := [[(0, .ro 19 []), (4, I 0), (5, I 0)]]) [] (by simp -dsimp -implicitDefEqProofs (maxSteps := 1000000) only [go_sem, ↓reduceIte, Nat.reduceAdd, Nat.reduceSub, Nat.reduceMul, Nat.reduceLT, Nat.reduceLeDiff, Nat.reduceEqDiff, Nat.reduceBEq, Nat.reduceBNe, Int.reduceToNat, Int.reduceLT, Int.reduceLE, Int.reduceNeg, reduceCtorEq, Int.reduceEq, Int.reduceNe]; rfl) (by simp) (by simp) (by simp) ⟨by simp -dsimp -implicitDefEqProofs (maxSteps := 1000000) only [go_sem, ↓reduceIte, Nat.reduceAdd, Nat.reduceSub, Nat.reduceMul, Nat.reduceLT, Nat.reduceLeDiff, Nat.reduceEqDiff, Nat.reduceBEq, Nat.reduceBNe, Int.reduceToNat, Int.reduceLT, Int.reduceLE, Int.reduceNeg, reduceCtorEq, Int.reduceEq, Int.reduceNe], trivial⟩⟩
  | 2, _ =>
    have e1 : ((2 : Nat) : Int) = 2 := rfl
    simp -dsimp -implicitDefEqProofs (maxSteps := 1000000) only [go_sem, ↓reduceIte, Nat.reduceAdd, Nat.reduceSub, Nat.reduceMul, Nat.reduceLT, Nat.reduceLeDiff, Nat.reduceEqDiff, Nat.reduceBEq, Nat.reduceBNe, Int.reduceToNat, Int.reduceLT, Int.reduceLE, Int.reduceNeg, reduceCtorEq, Int.reduceEq, Int.reduceNe, e1]
    refine AtFn.inl 400 [4] mixed Try.func73 (by kernel_rfl) rfl (by rw [Try.results73]; rfl) (Nat.le_of_ble_eq_true rfl) ?_; rw [Try.ntmps73]
    simp -dsimp -implicitDefEqProofs (maxSteps := 1000000) only [go_sem, ↓reduceIte, Nat.reduceAdd, Nat.reduceSub, Nat.reduceMul, Nat.reduceLT, Nat.reduceLeDiff, Nat.reduceEqDiff, Nat.reduceBEq, Nat.reduceBNe, Int.reduceToNat, Int.reduceLT, Int.reduceLE, Int.reduceNeg, reduceCtorEq, Int.reduceEq, Int.reduceNe]
    refine AtOp.cap0 (e := 66) rfl (by kernel_rfl) ?_ ?_
    · simp -dsimp -implicitDefEqProofs (maxSteps := 1000000) only [go_sem, ↓reduceIte, Nat.reduceAdd, Nat.reduceSub, Nat.reduceMul, Nat.reduceLT, Nat.reduceLeDiff, Nat.reduceEqDiff, Nat.reduceBEq, Nat.reduceBNe, Int.reduceToNat, Int.reduceLT, Int.reduceLE, Int.reduceNeg, reduceCtorEq, Int.reduceEq, Int.reduceNe]
    simp -dsimp -implicitDefEqProofs (maxSteps := 1000000) only [go_sem, ↓reduceIte, Nat.reduceAdd, Nat.reduceSub, Nat.reduceMul, Nat.reduceLT, Nat.reduceLeDiff, Nat.reduceEqDiff, Nat.reduceBEq, Nat.reduceBNe, Int.reduceToNat, Int.reduceLT, Int.reduceLE, Int.reduceNeg, reduceCtorEq, Int.reduceEq, Int.reduceNe, show wr (0 - 0) = 0 by decide, show ¬ (0 : Int) < 0 by decide]
    refine ⟨{i : Nat // i ≤ 2}, fun i => ⟨36, tl [(25, .ro 1 [[.ro 19 []], [.ro 19 []]]), (26, I 2), (27, I i.1), (6, .sl 0 0 0)], [(0, ⟨19, []⟩)], 1, ⟨[tl [(0, .ro 19 []), (4, I 0), (5, I 0)]], some (.mp none)⟩⟩, fun i => 2 - i.1,
      ⟨⟨0, by omega⟩, Le.tl0 (Ls := [[(0, .ro 19 []), (4, I 0), (5, I 0)]]) [(0, 99)] (by simp -dsimp -implicitDefEqProofs only [go_sem, seval]) (by simp -dsimp -implicitDefEqProofs (maxSteps := 1000000) only [go_sem, ↓reduceIte, Nat.reduceAdd, Nat.reduceSub, Nat.reduceMul, Nat.reduceLT, Nat.reduceLeDiff, Nat.reduceEqDiff, Nat.reduceBEq, Nat.reduceBNe, Int.reduceToNat, Int.reduceLT, Int.reduceLE, Int.reduceNeg, reduceCtorEq, Int.reduceEq, Int.reduceNe]) (by simp) (by simp) ⟨by simp -dsimp -implicitDefEqProofs (maxSteps := 1000000) only [go_sem, ↓reduceIte, Nat.reduceAdd, Nat.reduceSub, Nat.reduceMul, Nat.reduceLT, Nat.reduceLeDiff, Nat.reduceEqDiff, Nat.reduceBEq, Nat.reduceBNe, Int.reduceToNat, Int.reduceLT, Int.reduceLE, Int.reduceNeg, reduceCtorEq, Int.reduceEq, Int.reduceNe], trivial⟩⟩, fun i => ?_⟩
    obtain ⟨i, hi⟩ := i
    match i, hi with
    | 0, _ =>
      simp -dsimp -implicitDefEqProofs only [go_sem, seval, Int.natCast_zero, Nat.add_zero, Nat.zero_add, Nat.zero_le, Nat.le_refl]
      exact ⟨⟨1, by decide⟩, by decide, Le.tl (Ls := [[(0, .ro 19 []), (4, I 0), (5, I 0)]]) [(0, 1)] (by simp -dsimp -implicitDefEqProofs only [go_sem, seval]; rfl) (by simp -dsimp -implicitDefEqProofs only [go_sem, seval]; exact renL_cl rfl (by simp)) (by simp) (by simp) ⟨by simp -dsimp -implicitDefEqProofs only [go_sem, seval], trivial⟩⟩
    | 1, _ =>
      have e1 : ((1 : Nat) : Int) = 1 := rfl
      simp -dsimp -implicitDefEqProofs only [go_sem, seval, e1, Nat.add_zero, Nat.zero_add, Nat.zero_le, Nat.le_refl]
      exact ⟨⟨2, by decide⟩, by decide, Le.tl (Ls := [[(0, .ro 19 []), (4, I 0), (5, I 0)]]) [(0, 1)] (by simp -dsimp -implicitDefEqProofs only [go_sem, seval]; rfl) (by simp -dsimp -implicitDefEqProofs only [go_sem, seval]; exact renL_cl rfl (by simp)) (by simp) (by simp) ⟨by simp -dsimp -implicitDefEqProofs only [go_sem, seval], trivial⟩⟩
    | 2, _ =>
      have e1 : ((2 : Nat) : Int) = 2 := rfl
      simp -dsimp -implicitDefEqProofs only [go_sem, seval, e1]
      refine ⟨Unit, fun _ => ⟨93, tl [(0, .ro 19 []), (4, I 0), (5, I 0), (6, .sl 0 0 0), (7, I 0)], [(0, ⟨19, []⟩)], 1, ⟨[], some (.mp none)⟩⟩, fun _ => 0,
        ⟨(), Le.tl (Ls := []) [] (by simp -dsimp -implicitDefEqProofs only [go_sem, seval]) (by simp -dsimp -implicitDefEqProofs only [go_sem, seval]; exact renL_cl rfl (by simp)) (by simp) (by simp [sg]) trivial⟩, fun _ => ?_⟩
      simp -dsimp -implicitDefEqProofs only [go_sem, seval, show ¬ (0 : Int) < 0 by decide, Nat.add_zero, Nat.zero_add, Nat.zero_le, Nat.le_refl, Nat.sub_zero, List.drop_nil, List.take_nil]
      refine AtOp.copy0 (e := 66) (l := []) (z := 19) rfl (by kernel_rfl) (by rw [sz66]; decide) ?_ ?_ ?_ ?_
      · simp -dsimp -implicitDefEqProofs only [go_sem, seval]
      · rw [sz66]
        simp -dsimp -implicitDefEqProofs only [go_sem, seval]
        exact ⟨rfl, by simp, rfl⟩
      · simp -dsimp -implicitDefEqProofs (maxSteps := 1000000) only [go_sem, ↓reduceIte, Nat.reduceAdd, Nat.reduceSub, Nat.reduceMul, Nat.reduceLT, Nat.reduceLeDiff, Nat.reduceEqDiff, Nat.reduceBEq, Nat.reduceBNe, Int.reduceToNat, Int.reduceLT, Int.reduceLE, Int.reduceNeg, reduceCtorEq, Int.reduceEq, Int.reduceNe]
      simp -dsimp -implicitDefEqProofs (maxSteps := 1000000) only [go_sem, ↓reduceIte, Nat.reduceAdd, Nat.reduceSub, Nat.reduceMul, Nat.reduceLT, Nat.reduceLeDiff, Nat.reduceEqDiff, Nat.reduceBEq, Nat.reduceBNe, Int.reduceToNat, Int.reduceLT, Int.reduceLE, Int.reduceNeg, reduceCtorEq, Int.reduceEq, Int.reduceNe, show wr (0 - 0) = 0 by decide, Nat.add_zero, Nat.zero_add, Nat.zero_le, Nat.le_refl, Nat.sub_zero]
      refine AtOp.copy0 (e := 66) (l := []) (z := 19) rfl (by kernel_rfl) (by rw [sz66]; decide) ?_ ?_ ?_ ?_
      · simp -dsimp -implicitDefEqProofs only [go_sem, seval]
      · rw [sz66]
        simp -dsimp -implicitDefEqProofs only [go_sem, seval]
        exact ⟨rfl, by simp, rfl⟩
      · simp -dsimp -implicitDefEqProofs only [go_sem, seval]
      simp -dsimp -implicitDefEqProofs only [go_sem, seval]
end

section
set_option maxRecDepth 20000
attribute [local go_sem] eqk27' clKnsL clArsL clUvR
def pt3 (b c : Int × Int) : (Int × Int) × (Int × Int) × Int := if inP b && inP c then (b, c, 0) else ((0, 0), (0, 0), 17)
theorem ptR_3 (b c : Int × Int) : ptR b c = .t [Pt (pt3 b c).1, Pt (pt3 b c).2.1, I (pt3 b c).2.2] := by
  unfold ptR pt3
  split <;> rfl
def ctl3 (r : Ar) : (Int × Int) × (Int × Int) × Int :=
  if r.a.op = 3 then ((r.a.x, r.a.y), (r.b.x, r.b.y), 0)
  else if r.st then pt3 (stB r) (stC r) else pt3 (alB (r.fx, r.fy) (r.tx, r.ty) (circW r.u) (circW r.v) r.a.t) (alC (r.fx, r.fy) (r.tx, r.ty) (circW r.u) (circW r.v) r.b.t)
theorem ctlA_3 (r : Ar) : ctlA r = .t [Pt (ctl3 r).1, Pt (ctl3 r).2.1, I (ctl3 r).2.2] := by
  unfold ctlA ctl3
  split
  · rfl
  · split
    · exact ptR_3 _ _
    · unfold alongR; exact ptR_3 _ _
abbrev PtC (p : Int × Int) : List AV := [I p.1, I p.2]
theorem clPts (l : List (Int × Int)) : ∀ c ∈ l.map PtC, ∀ s ∈ c, Cl s := by
  intro c hc s hs
  obtain ⟨k, _, rfl⟩ := List.mem_map.1 hc
  simp at hs
  rcases hs with rfl | rfl <;> exact .v _
theorem clPtsT (l : List (Int × Int)) : (∀ c ∈ l.map PtC, ∀ s ∈ c, Cl s) ↔ True := iff_true_intro (clPts l)
theorem clPtsR (l : List (Int × Int)) : Cl (.ro 2 (l.map PtC)) ↔ True := iff_true_intro (.ro (clPts l))
attribute [local go_sem] clPtsT clPtsR
def chAdd (n : Nat) (c : Bool) (k : Nat) (r : Ar) : List (Int × Int) := [(ctl3 r).1, (ctl3 r).2.1] ++ (if k + 1 < n ∨ c = false then [(r.tx, r.ty)] else [])
def chPts (n : Nat) (c : Bool) : Nat → List Ar → List (Int × Int)
  | _, [] => []
  | k, r :: rs => chAdd n c k r ++ chPts n c (k + 1) rs
def chErr : List Ar → Int
  | [] => 0
  | r :: rs => if (ctl3 r).2.2 = 0 then chErr rs else (ctl3 r).2.2
def PaR (pts : List (Int × Int)) (c : Bool) : AV := .t [.g [.ro 2 (pts.map PtC), Bo c], I 0]
def chR (p : Int × Int) (n : Nat) (c : Bool) (rs : List Ar) : AV := if chErr rs = 0 then PaR (p :: chPts n c 0 rs) c else .t [.g [nilS, Bo false], I (chErr rs)]
theorem clChR (p : Int × Int) (n : Nat) (c : Bool) (rs : List Ar) : Cl (chR p n c rs) := by
  unfold chR PaR
  split
  · simp only [Cl_t, Cl_g, List.mem_cons, List.not_mem_nil, or_false, forall_eq_or_imp, forall_eq, clPtsR, Cl_v, and_self]
  · simp [Cl_t, Cl_g, Cl_v]
theorem choose13_bad (l : List Kn) (c : Bool) (hl : l.length < 2 ^ 62) (hv : validK l c = false) : PFun Try.prog 13 [Kns l, Bo c] (.t [.g [nilS, Bo false], I 2]) := by
  have hvl := valid17 l c hl
  rw [hv] at hvl
  refine PFun.intro 400 mixed Try.func13 (by kernel_rfl) rfl ((by simp [Cl_t, Cl_g, Cl_v])) (Nat.le_of_ble_eq_true rfl) ?_; rw [Try.ntmps13, Try.results13]
  simp -dsimp -implicitDefEqProofs only [go_sem, seval]
  refine AtFn.pure0 hvl ?_
  simp -dsimp -implicitDefEqProofs only [go_sem, seval]
set_option maxHeartbeats 4000000 in
theorem choose13 (l : List Kn) (c : Bool) (rs : List Ar) (hv : validK l c = true) (h : Slv l c rs) (hok : ∀ r ∈ rs, ArOk r) : PFun Try.prog 13 [Kns l, Bo c] (chR ((l.getD 0 zK).x, (l.getD 0 zK).y) (segs l c) c rs) := by
  obtain ⟨hl1, hl2⟩ := valid_len hv
  have hsl := solveS hv h
  have hrl := h.len
  have hpos := h.pos
  have hsg := valid_segs hv
  have hvl := valid17 l c (by omega)
  rw [hv] at hvl
  have hset := settled26 l c hv
  have harc := arcs25 (settledW l c) c (by rw [settled_len]; exact hl1) (by rw [settled_len]; exact hl2) (settled_b (valid_b hv) (by omega))
  change NFun Try.prog 25 _ 19 ((arcs0 l c).map ArC) at harc
  have hal := arcs0_len l c
  obtain ⟨n, hn⟩ : ∃ n, n = segs l c := ⟨_, rfl⟩
  rw [← hn] at hsl hrl hpos hsg hal
  rw [← hn]
  have hg0 := getKn (l := l) (i := 0) (by omega)
  obtain ⟨z0, hz0⟩ : ∃ z0, z0 = l.getD 0 zK := ⟨_, rfl⟩
  rw [← hz0] at hg0 ⊢
  have c0 : (0 : Int) < ((l.length : Nat) : Int) := by omega
  refine PFun.introM 400 mixed Try.func13 (by kernel_rfl) rfl (clChR _ _ _ _) (Nat.le_of_ble_eq_true rfl) ?_; rw [Try.ntmps13, Try.results13]
  simp -dsimp -implicitDefEqProofs only [go_sem, seval]
  refine AtFn.pure0 hvl ?_
  simp -dsimp -implicitDefEqProofs only [go_sem, seval]
  refine AtFn.new hset ?_
  simp -dsimp -implicitDefEqProofs only [go_sem, seval, List.length_map, settled_len]
  refine AtFn.new harc ?_
  simp -dsimp -implicitDefEqProofs only [go_sem, seval, List.length_map, settled_len, takeKn2, Nat.le_refl, Nat.zero_add]
  rw [hal]
  refine AtFn.le ⟨75, tl [(0, Kns l), (1, Bo c), (4, .ptr 1 0 0), (6, .sl 0 0 n), (23, .sl 0 0 n), (24, Bo c)], [(0, ⟨19, (arcs0 l c).map ArC⟩), (1, ⟨2, [[nilS, Bo false]]⟩)], 2, ⟨[], some (.mp none)⟩⟩ [.sl 0 0 n, Bo c] (Le.tl (Ls := []) [(0, 2), (1, 0)] (by simp -dsimp -implicitDefEqProofs only [go_sem, seval]) ?_ (by simp) (by simp [sg]) trivial)
    (by intro fo xs ts h; cases h; exact ⟨by simp -dsimp -implicitDefEqProofs only [go_sem, seval], by simp -dsimp -implicitDefEqProofs only [go_sem, seval]⟩) ?_
  · simp -dsimp -implicitDefEqProofs only [go_sem, seval]
    exact ⟨renL_cl rfl ((clArsL _).2 trivial), renL_cl rfl (by simp -dsimp -implicitDefEqProofs only [go_sem, seval])⟩
  refine AtFn.m' (h0 := [(0, ⟨19, (arcs0 l c).map ArC⟩)]) (hr := [(1, ⟨2, [[nilS, Bo false]]⟩)]) (k' := 2) id hsl (MOk.id (Ls := []) (by simp) (by simp -dsimp -implicitDefEqProofs only [go_sem, seval, id_eq]) ?_ (by simp -dsimp -implicitDefEqProofs only [go_sem, seval, id_eq]) (by simp) ?_ (by simp) ?_ (.cl (by simp [Cl_t])) (by simp) (by simp) (by simp)) ?_
  · simp -dsimp -implicitDefEqProofs only [go_sem, seval, id_eq]
    exact renL_cl rfl ((clArsL _).2 trivial)
  · simp -dsimp -implicitDefEqProofs only [go_sem, seval, id_eq]
    exact renL_cl rfl (by simp -dsimp -implicitDefEqProofs only [go_sem, seval])
  · simp -dsimp -implicitDefEqProofs only [go_sem, seval, id_eq]
    exact renL_cl rfl ((clArsL _).2 trivial)
  simp -dsimp -implicitDefEqProofs only [go_sem, seval, c0, hg0, Int.toNat_natCast, List.length_map]
  refine ⟨{p : Nat × List (Int × Int) // p.1 ≤ n ∧ p.2 ++ chPts n c p.1 (rs.drop p.1) = (z0.x, z0.y) :: chPts n c 0 rs ∧ chErr (rs.drop p.1) = chErr rs ∧ p.2.length ≤ 3 * p.1 + 1},
    fun p => ⟨75, tl [(1, Bo c), (4, .ptr 3 0 0), (6, .sl 0 0 n), (7, .ptr 1 0 0), (33, .sl 0 0 n), (34, I (n : Nat)), (35, I p.1.1)], [(0, ⟨19, rs.map ArC⟩), (1, ⟨2, [[.sl 2 0 p.1.2.length, Bo c]]⟩), (2, ⟨2, p.1.2.map PtC⟩), (3, ⟨2, [[nilS, Bo false]]⟩)], 4, ⟨[], some (.mp none)⟩⟩, fun p => n - p.1.1,
    ⟨⟨(0, [(z0.x, z0.y)]), by omega, rfl, rfl, Nat.le_refl _⟩, Le.tl (Ls := []) [(1, 3), (2, 2), (3, 1)] (by simp -dsimp -implicitDefEqProofs only [go_sem, seval]) ?_ (by simp) (by simp [sg]) trivial⟩, fun p => ?_⟩
  · simp -dsimp -implicitDefEqProofs only [go_sem, seval]
    exact ⟨renL_cl rfl ((clArsL _).2 trivial), renL_F (by simp -dsimp -implicitDefEqProofs only [go_sem, seval]), renL_cl rfl (by simp -dsimp -implicitDefEqProofs only [go_sem, seval]), renL_cl rfl (by simp -dsimp -implicitDefEqProofs only [go_sem, seval])⟩
  obtain ⟨⟨i, acc⟩, i1, i2, i3, i4⟩ := p
  simp only at i1 i2 i3 i4
  simp -dsimp -implicitDefEqProofs only [go_sem, seval, List.length_map]
  refine ⟨fun h0 => ?_, fun hout => ?_⟩
  · have hin : i < n := by omega
    have e3 : wr ((i : Int) + 1) = ((i + 1 : Nat) : Int) := by rw [wr_in] <;> omega
    have e4 : wr ((n : Int) - 1) = ((n - 1 : Nat) : Int) := by rw [wr_in] <;> omega
    have c1 : (i : Int) < ((n : Nat) : Int) := by omega
    have hg := getAr (l := rs) (i := i) (by omega)
    have hdr : rs.drop i = rs.getD i zA :: rs.drop (i + 1) := by
      have := getA (l := rs) (i := i) (by omega)
      rw [List.drop_eq_getElem_cons (by omega)]
      rw [List.getElem?_eq_getElem (by omega)] at this
      rw [Option.some.inj this]
    have hokr := hok (rs.getD i zA) (List.mem_of_getElem? (getA (by omega)))
    obtain ⟨r, hr⟩ : ∃ r, r = rs.getD i zA := ⟨_, rfl⟩
    rw [← hr] at hg hdr hokr
    rw [hdr] at i2 i3
    simp only [chPts, chErr] at i2 i3
    have hct := controls28 r hokr
    rw [ctlA_3] at hct
    obtain ⟨q, hq⟩ : ∃ q, q = ctl3 r := ⟨_, rfl⟩
    unfold chAdd at i2
    rw [← hq] at hct i2 i3
    simp -dsimp -implicitDefEqProofs only [go_sem, seval, c1, Int.toNat_natCast, Int.natCast_nonneg, Nat.zero_add, hg]
    refine AtFn.pure0 hct ?_
    by_cases he : q.2.2 = 0
    · rw [if_pos he] at i3
      have f1 : takeA 0 acc.length (acc.map PtC) = acc.map PtC := by rw [takeA_eq, List.drop_zero, List.take_of_length_le (by simp)]
      have f4 : acc.length ≤ (acc.map PtC).length := by simp
      have f5 : acc.length ≤ 274877906942 := by omega
      have f6 : (acc.map PtC).length + 2 ≤ 274877906944 := by simp; omega
      obtain ⟨acc2, ha2⟩ : ∃ acc2, acc2 = acc ++ [q.1, q.2.1] := ⟨_, rfl⟩
      have hl2' : acc2.length = acc.length + 2 := by rw [ha2]; simp
      have g2 : acc.map PtC ++ [[I q.1.1, I q.1.2], [I q.2.1.1, I q.2.1.2]] = acc2.map PtC := by rw [ha2, List.map_append]; rfl
      have f7 : takeA 0 acc2.length (acc2.map PtC) = acc2.map PtC := by rw [takeA_eq, List.drop_zero, List.take_of_length_le (by simp)]
      have f8 : acc2.length ≤ 274877906943 := by omega
      have f9 : acc2.length + 1 ≤ 274877906944 := by omega
      obtain ⟨acc3, ha3⟩ : ∃ acc3, acc3 = acc2 ++ [(r.tx, r.ty)] := ⟨_, rfl⟩
      have hl3 : acc3.length = acc2.length + 1 := by rw [ha3]; simp
      have g3 : acc2.map PtC ++ [[I r.tx, I r.ty]] = acc3.map PtC := by rw [ha3, List.map_append]; rfl
      by_cases hk : i + 1 < n
      · rw [if_pos (.inl hk)] at i2
        have k1 : (i : Int) < ((n - 1 : Nat) : Int) := by omega
        have i2' : acc3 ++ chPts n c (i + 1) (rs.drop (i + 1)) = (z0.x, z0.y) :: chPts n c 0 rs := by rw [ha3, ha2, ← i2]; simp
        simp -dsimp -implicitDefEqProofs only [go_sem, seval, he, f1, f4, f5, f6, List.length_map, Nat.zero_add, g2, f7, f8, f9, e4, k1, Nat.le_refl, g3]
        refine ⟨⟨(i + 1, acc3), by show i + 1 ≤ n; omega, i2', i3, by show (acc3).length ≤ 3 * (i + 1) + 1; omega⟩, by show n - (i + 1) < n - i; omega, Le.tl (Ls := []) [(2, 10)] (by simp -dsimp -implicitDefEqProofs only [go_sem, seval, e3]) ?_ (by simp) (by simp [sg]) trivial⟩
        simp -dsimp -implicitDefEqProofs only [go_sem, seval]
        exact ⟨renL_cl rfl ((clArsL _).2 trivial), renL_F (by simp -dsimp -implicitDefEqProofs only [go_sem, seval]), renL_cl rfl (clPts _), renL_cl rfl (by simp -dsimp -implicitDefEqProofs only [go_sem, seval])⟩
      · have k1 : ¬ (i : Int) < ((n - 1 : Nat) : Int) := by omega
        cases c with
        | false =>
          rw [if_pos (.inr rfl)] at i2
          have i2' : acc3 ++ chPts n false (i + 1) (rs.drop (i + 1)) = (z0.x, z0.y) :: chPts n false 0 rs := by rw [ha3, ha2, ← i2]; simp
          simp -dsimp -implicitDefEqProofs only [go_sem, seval, he, f1, f4, f5, f6, List.length_map, Nat.zero_add, g2, f7, f8, f9, e4, k1, Nat.le_refl, g3]
          refine ⟨⟨(i + 1, acc3), by show i + 1 ≤ n; omega, i2', i3, by show (acc3).length ≤ 3 * (i + 1) + 1; omega⟩, by show n - (i + 1) < n - i; omega, Le.tl (Ls := []) [(2, 10)] (by simp -dsimp -implicitDefEqProofs only [go_sem, seval, e3]) ?_ (by simp) (by simp [sg]) trivial⟩
          simp -dsimp -implicitDefEqProofs only [go_sem, seval]
          exact ⟨renL_cl rfl ((clArsL _).2 trivial), renL_F (by simp -dsimp -implicitDefEqProofs only [go_sem, seval]), renL_cl rfl (clPts _), renL_cl rfl (by simp -dsimp -implicitDefEqProofs only [go_sem, seval])⟩
        | true =>
          rw [if_neg (by simp; omega)] at i2
          have i2' : acc2 ++ chPts n true (i + 1) (rs.drop (i + 1)) = (z0.x, z0.y) :: chPts n true 0 rs := by rw [ha2, ← i2]; simp
          simp -dsimp -implicitDefEqProofs only [go_sem, seval, he, f1, f4, f5, f6, List.length_map, Nat.zero_add, g2, f7, f8, f9, e4, k1, Nat.le_refl, g3]
          refine ⟨⟨(i + 1, acc2), by show i + 1 ≤ n; omega, i2', i3, by show (acc2).length ≤ 3 * (i + 1) + 1; omega⟩, by show n - (i + 1) < n - i; omega, Le.tl (Ls := []) [(2, 8)] (by simp -dsimp -implicitDefEqProofs only [go_sem, seval, e3]) ?_ (by simp) (by simp [sg]) trivial⟩
          simp -dsimp -implicitDefEqProofs only [go_sem, seval]
          exact ⟨renL_cl rfl ((clArsL _).2 trivial), renL_F (by simp -dsimp -implicitDefEqProofs only [go_sem, seval]), renL_cl rfl (clPts _), renL_cl rfl (by simp -dsimp -implicitDefEqProofs only [go_sem, seval])⟩
    · rw [if_neg he] at i3
      have hce : chErr rs ≠ 0 := by rw [← i3]; exact he
      simp -dsimp -implicitDefEqProofs only [go_sem, seval, he]
      unfold chR
      rw [if_neg hce, i3]
  · have : i = n := by omega
    subst this
    rw [List.drop_eq_nil_of_le (by omega)] at i2 i3
    simp only [chPts, chErr, List.append_nil] at i2 i3
    have f1 : takeA 0 acc.length (acc.map PtC) = acc.map PtC := by rw [takeA_eq, List.drop_zero, List.take_of_length_le (by simp)]
    unfold chR PaR
    rw [if_pos i3.symm, ← i2]
    simp -dsimp -implicitDefEqProofs only [go_sem, seval, f1, List.length_map, Nat.zero_add, Nat.le_refl]
end

section
set_option maxRecDepth 20000
attribute [local go_sem] eqk27' clKnsL clArsL clUvR clPtsT clPtsR
set_option maxHeartbeats 2000000 in
theorem choose13_0 (l : List Kn) (c : Bool) (hv : validK l c = true) (h : segs l c = 0) : PFun Try.prog 13 [Kns l, Bo c] (PaR [((l.getD 0 zK).x, (l.getD 0 zK).y)] c) := by
  obtain ⟨hl1, hl2⟩ := valid_len hv
  obtain rfl := segs0_c hl1 h
  have hvl := valid17 l false (by omega)
  rw [hv] at hvl
  have hset := settled26 l false hv
  have harc := arcs25 (settledW l false) false (by rw [settled_len]; exact hl1) (by rw [settled_len]; exact hl2) (settled_b (valid_b hv) (by omega))
  change NFun Try.prog 25 _ 19 ((arcs0 l false).map ArC) at harc
  rw [arcs0_nil h] at harc
  have harc := harc.toP0
  have hg0 := getKn (l := l) (i := 0) (by omega)
  have c0 : (0 : Int) < ((l.length : Nat) : Int) := by omega
  refine PFun.introM 400 mixed Try.func13 (by kernel_rfl) rfl ((by unfold PaR; simp [Cl_t, Cl_g, Cl_v, Cl_ro])) (Nat.le_of_ble_eq_true rfl) ?_; rw [Try.ntmps13, Try.results13]
  simp -dsimp -implicitDefEqProofs only [go_sem, seval]
  refine AtFn.pure0 hvl ?_
  simp -dsimp -implicitDefEqProofs only [go_sem, seval]
  refine AtFn.new hset ?_
  simp -dsimp -implicitDefEqProofs only [go_sem, seval, List.length_map, settled_len]
  refine AtFn.pure harc ?_
  simp -dsimp -implicitDefEqProofs only [go_sem, seval, List.length_map, settled_len, takeKn2, Nat.le_refl, Nat.zero_add]
  refine AtFn.pure0 solve27_0 ?_
  simp -dsimp -implicitDefEqProofs only [go_sem, seval, c0, hg0, Int.toNat_natCast, List.length_map]
  obtain ⟨z0, hz0⟩ : ∃ z0, z0 = l.getD 0 zK := ⟨_, rfl⟩
  rw [← hz0]
  refine ⟨Unit, fun _ => ⟨75, tl [(4, .ptr 2 0 0), (7, .ptr 0 0 0), (33, .ro 19 []), (34, I 0), (35, I 0)], [(0, ⟨2, [[.sl 1 0 1, Bo false]]⟩), (1, ⟨2, [[I z0.x, I z0.y]]⟩), (2, ⟨2, [[nilS, Bo false]]⟩)], 3, ⟨[], some (.mp none)⟩⟩, fun _ => 0,
    ⟨(), Le.tl (Ls := []) [(0, 3), (1, 2), (2, 0)] (by simp -dsimp -implicitDefEqProofs only [go_sem, seval]) ?_ (by simp) (by simp [sg]) trivial⟩, fun _ => ?_⟩
  · simp -dsimp -implicitDefEqProofs only [go_sem, seval]
    exact ⟨renL_F (by simp -dsimp -implicitDefEqProofs only [go_sem, seval]), renL_cl rfl (by simp -dsimp -implicitDefEqProofs only [go_sem, seval]), renL_cl rfl (by simp -dsimp -implicitDefEqProofs only [go_sem, seval])⟩
  simp -dsimp -implicitDefEqProofs only [go_sem, seval, show ¬ (0 : Int) < 0 by decide]
  rfl
abbrev Pts (l : List (Int × Int)) : AV := .ro 2 (l.map PtC)
theorem same24 (l m : List (Int × Int)) (hl : l.length < 2 ^ 62) : PFun Try.prog 24 [Pts l, Pts m] (Bo (decide (l = m))) := by
  refine PFun.intro 400 mixed Try.func24 (by kernel_rfl) rfl (by first | exact .v _ | (simp [Cl_v, Cl_t, Cl_g, Cl_fn, Cl_rp, Cl_ro]; done) | (simp [Cl_v, Cl_t, Cl_g, Cl_fn, Cl_rp, Cl_ro, or_imp, forall_and]; done) | (split <;> simp [Cl_v, Cl_t, Cl_g, Cl_fn, Cl_rp, Cl_ro])) (Nat.le_of_ble_eq_true rfl) ?_; rw [Try.ntmps24, Try.results24]
  simp -dsimp -implicitDefEqProofs only [go_sem, seval, List.length_map]
  refine ⟨fun h => ?_, fun h => ?_⟩
  · have hlm : l.length = m.length := by omega
    refine ⟨{i : Nat // i ≤ l.length ∧ ∀ j (h : j < l.length) (h' : j < m.length), j < i → l[j] = m[j]}, fun i => ⟨26, tl [(0, Pts l), (1, Pts m), (12, I l.length), (13, I i.1)], [], 0, .nil⟩, fun i => l.length - i.1,
      ⟨⟨0, by omega, by intro j h h' h''; omega⟩, Le.tl (Ls := []) (y := none) [] (by simp -dsimp -implicitDefEqProofs only [go_sem, seval]) (by simp) (by simp) (by simp) trivial⟩, fun i => ?_⟩
    obtain ⟨i, hi, hall⟩ := i
    simp -dsimp -implicitDefEqProofs only [go_sem, seval]
    refine ⟨fun h => ?_, fun h => ?_⟩
    · have hlt : i < l.length := by omega
      have hlt' : i < m.length := by omega
      have hp : l[i]? = some l[i] := List.getElem?_eq_getElem hlt
      have hp' : m[i]? = some m[i] := List.getElem?_eq_getElem hlt'
      refine AtCode.draw 9 [([], []), ([], []), ([0, 1], []), ([0, 1, 2], []), ([], []), ([], []), ([4, 5], []), ([4, 5, 6], []), ([0, 1, 2, 3, 4, 5, 6, 7], [])] (by kernel_rfl) ?_
      simp -dsimp -implicitDefEqProofs only [go_sem, seval, List.getElem?_map, Int.toNat_natCast, hp, hp', Int.natCast_nonneg]
      refine ⟨fun he => ?_, fun he => ?_⟩
      · have he' : l[i] = m[i] := by
          simp at he; exact Prod.ext he.1 he.2
        have e3 : wr ((i : Int) + 1) = ((i + 1 : Nat) : Int) := wr_in (by omega) (by omega)
        refine ⟨⟨i + 1, by omega, fun j h1 h2 h3 => ?_⟩, by show l.length - (i + 1) < l.length - i; omega, Le.tl (Ls := []) (y := none) [] (by simp -dsimp -implicitDefEqProofs only [go_sem, seval, e3]) (by simp) (by simp) (by simp) trivial⟩
        by_cases hj : j = i
        · subst hj; exact he'
        · exact hall j h1 h2 (by omega)
      · have : ¬ l = m := fun e => he (by subst e; rfl)
        simp [this]
    · have : l = m := List.ext_getElem hlm fun j h1 h2 => hall j h1 h2 (by omega)
      simp [this]
  · have : ¬ l = m := fun e => h (by rw [e])
    simp [this]
theorem eqA44 (d : Nat) (w : World) (x0 y0 x1 y1 : Int) : (Op.equalIn (d + 3) 44 (.agg #[.int .i64 x0, .int .i64 x1]) (.agg #[.int .i64 y0, .int .i64 y1])).run Try.prog w = .ok (x0 == y0 && (x1 == y1)) w := by
  have e1 : ∀ (a b : Int), (Op.equalIn (d + 2) 3 (.int .i64 a) (.int .i64 b)).run Try.prog w = .ok (a == b) w := by intro a b; go_simp
  have p1 : ∀ (a b : Int), (part 3 #[.int .i64 a, .int .i64 b] (0 * 1)).run Try.prog w = .ok (.int .i64 a) w := by intro a b; go_simp
  have p2 : ∀ (a b : Int), (part 3 #[.int .i64 a, .int .i64 b] (1 * 1)).run Try.prog w = .ok (.int .i64 b) w := by intro a b; go_simp
  have hs : (sizeOf 3).run Try.prog w = .ok 1 w := by go_simp
  rw [Op.equalIn]
  simp only [Sem.run_bind, run_underlying Try.underlying44, Result.andThen_ok, hs]
  rw [Std.Legacy.Range.forIn_eq_forIn_range']
  have hr : List.range' 0 2 = [0, 1] := rfl
  simp only [Std.Legacy.Range.size, List.forIn_cons, List.forIn_nil, Nat.reduceSub, Nat.reduceAdd, Nat.reduceDiv, Nat.sub_zero, Nat.add_one_sub_one, Nat.div_one, hr, Sem.run_bind, p1, p2, Result.andThen_ok, e1]
  cases h1 : (x0 == y0) <;> cases h2 : (x1 == y1) <;> simp_all [Sem.run_bind, List.range'] 
theorem eqk44 : EqK Try.prog 44 2 := by
  refine EqK.of (by kernel_rfl) fun xs ys hx hy w => ?_
  match xs, ys, hx, hy with
  | [a, b], [c, d], _, _ =>
    have := eqA44 9997 w a c b d
    refine Eq.trans this ?_
    congr 1
    rw [Bool.eq_iff_iff]; simp
theorem eqk44' : EqK Try.prog 44 2 ↔ True := iff_true_intro eqk44
theorem knot12 (x y op v : Int) : PFun Try.prog 12 [I x, I y, I op, I v] (KnA ⟨x, y, ⟨op, 65536, v, 0, 0⟩, ⟨op, 65536, v, 0, 0⟩⟩) := by
  refine PFun.intro 400 mixed Try.func12 (by kernel_rfl) rfl ((by simp [Cl_g, Cl_v])) (Nat.le_of_ble_eq_true rfl) ?_; rw [Try.ntmps12, Try.results12]
  simp -dsimp -implicitDefEqProofs only [go_sem, seval]
end

section
set_option maxRecDepth 20000
attribute [local go_sem] eqk27' clKnsL clArsL clUvR clPtsT clPtsR eqk44'
def okT (s : Sd) : Prop := s.op = 3 ∨ inT s.t = true
def okTK (k : Kn) : Prop := okT k.c ∧ okT k.l
def okTs (l : List Kn) : Prop := ∀ i, i < l.length → okTK (l.getD i zK)
theorem okTs_set {l : List Kn} (h : okTs l) (i : Nat) {k : Kn} (hk : okTK k) : okTs (l.set i k) := by
  intro j hj
  rw [List.length_set] at hj
  rw [getD_set hj]
  split
  · exact hk
  · exact h j hj
theorem okSd_T {s : Sd} (h : okSd s = true) : okT s := by
  unfold okSd at h
  split at h
  · rename_i h3; exact .inl h3
  · simp only [Bool.and_eq_true] at h; exact .inr h.2.1
theorem s1_T {l : List Kn} (h : okTs l) {k : Nat} (hk : k < l.length) : okTs (s1 l k) := by
  have hj : (k + 1) % l.length < l.length := Nat.mod_lt _ (by omega)
  unfold s1
  split
  · have h1 : okTs (s1A l k) := okTs_set h k ⟨(h k hk).1, .inl rfl⟩
    have hl : (s1A l k).length = l.length := by unfold s1A; simp
    exact okTs_set h1 _ ⟨.inl rfl, (h1 ((k + 1) % l.length) (by rw [hl]; exact hj)).2⟩
  · exact h
theorem s1N_T {l : List Kn} (h : okTs l) : ∀ i, i ≤ l.length → okTs (s1N i l)
  | 0, _ => h
  | i + 1, hi => s1_T (s1N_T h i (by omega)) (by rw [s1N_len]; omega)
theorem like_T {o s : Sd} (x y : Int) (h : okT o) : okT (likeW o s x y) := by
  unfold likeW
  split
  · rename_i h0
    have ht : inT o.t = true := h.resolve_left (by omega)
    split
    · exact h
    · split
      · split <;> exact .inr ht
      · exact .inr ht
  · exact h
theorem s2_T {k : Kn} (h : okTK k) : okTK (s2 k) := ⟨like_T _ _ h.1, like_T _ _ h.2⟩
theorem s2N_T (c : Bool) {l : List Kn} (h : okTs l) : ∀ i, i ≤ l.length → okTs (s2N c i l)
  | 0, _ => h
  | i + 1, hi => by
    have ih := s2N_T c h i (by omega)
    rw [s2N]
    split
    · exact ih
    · exact okTs_set ih i (s2_T (ih i (by rw [s2N_len]; omega)))
theorem opn_T {o : Sd} (h : okT o) : okT (opnW o) := by
  unfold opnW
  split
  · exact .inr (h.resolve_left (by omega))
  · exact h
theorem s3_T (c : Bool) {l : List Kn} (h : okTs l) (hl : 0 < l.length) : okTs (s3 c l) := by
  unfold s3
  split
  · exact h
  · have h1 : okTs (s3A l) := okTs_set h 0 ⟨(h 0 hl).1, opn_T (h 0 hl).2⟩
    have hl2 : (s3A l).length = l.length := by unfold s3A; simp
    have b := h1 ((s3A l).length - 1) (by omega)
    exact okTs_set h1 _ ⟨opn_T b.1, b.2⟩
theorem settled_T {l : List Kn} {c : Bool} (h : validK l c = true) : okTs (settledW l c) := by
  have hl := (valid_len h).1
  have h0 : okTs l := by
    intro i hi
    simp only [validK, Bool.and_eq_true] at h
    have h2 := h.1.2
    rw [List.all_eq_true] at h2
    have := h2 _ (List.mem_of_getElem? (getK hi))
    simp only [okKn, Bool.and_eq_true] at this
    exact ⟨okSd_T this.2.1, okSd_T this.2.2⟩
  unfold settledW
  refine s3_T c ?_ (by rw [s2N_len, s1N_len]; exact hl)
  exact s2N_T c (s1N_T h0 (segs l c) segs_le) l.length (by rw [s1N_len]; exact Nat.le_refl _)
def Alone (r : Ar) : Prop := r.a.op = 3 ∨ (r.a.op = 2 ∧ r.b.op = 2)
def fin1 (r : Ar) : Ar := if r.a.op = 3 then r else stW r
theorem goes_no {x y : Ar} (h : Alone y) : goesW x y = false := by
  unfold goesW
  rcases h with h | ⟨h, _⟩ <;> simp [h]
theorem str_alone : ∀ (l : List Ar), (∀ r ∈ l, Alone r) → Str l (l.map fin1)
  | [], _ => .nil
  | x :: xs, h => by
    have hx := h x List.mem_cons_self
    have hc : chainN x xs = 0 := by
      cases xs with
      | nil => rfl
      | cons y ys => simp only [chainN]; rw [goes_no (h y (by simp))]; rfl
    have ih := str_alone xs (fun r hr => h r (List.mem_cons_of_mem _ hr))
    have := Str.cons x xs [fin1 x] (xs.map fin1) (by rw [hc]; rfl) (fun h3 => by rw [hc]; simp [fin1, h3]) (fun h3 => by
      rw [hc, List.take_zero]
      have h2 : x.a.op = 2 ∧ x.b.op = 2 := hx.resolve_left h3
      have : fin1 x = stW x := by unfold fin1; rw [if_neg h3]
      rw [this]
      exact open_st x h2.1 h2.2) (by rw [hc]; exact ih)
    exact this
theorem slv_alone {l : List Kn} {c : Bool} (hpos : 1 ≤ segs l c) (hsg : segs l c ≤ 200) (h : ∀ r ∈ arcs0 l c, Alone r) : Slv l c ((arcs0 l c).map fin1) := by
  refine Slv.of hsg hpos ⟨0, (arcs0 l c).map fin1, ?_, ?_, ?_⟩
  · have hl := arcs0_len l c
    cases c with
    | false => exact .inl ⟨rfl, rfl⟩
    | true =>
      refine .inr ⟨rfl, by omega, fun i hi => by omega, ?_⟩
      exact goes_no (h _ (List.mem_of_getElem? (getA (by omega))))
  · rw [List.drop_zero, List.take_zero, List.append_nil]
    exact str_alone _ h
  · rw [Nat.sub_zero, List.drop_eq_nil_of_le (by simp), List.take_of_length_le (by simp), List.nil_append]
theorem arcs0_get {l : List Kn} {c : Bool} {i : Nat} (hi : i < segs l c) : (arcs0 l c).getD i zA = arcW (settledW l c) i := by
  unfold arcs0 arcsW
  rw [segs_set]
  simp [List.getD, List.getElem?_range hi]
theorem arcs0_mem {l : List Kn} {c : Bool} {r : Ar} (h : r ∈ arcs0 l c) : ∃ i, i < segs l c ∧ r = arcW (settledW l c) i := by
  unfold arcs0 arcsW at h
  rw [segs_set] at h
  obtain ⟨i, hi, rfl⟩ := List.mem_map.1 h
  exact ⟨i, List.mem_range.1 hi, rfl⟩
structure ArcF (l : List Kn) (i : Nat) (r : Ar) : Prop where
  fx : r.fx = (l.getD i zK).x
  fy : r.fy = (l.getD i zK).y
  tx : r.tx = (l.getD ((i + 1) % l.length) zK).x
  ty : r.ty = (l.getD ((i + 1) % l.length) zK).y
  a : r.a = (l.getD i zK).l
  b : r.b = (l.getD ((i + 1) % l.length) zK).c
  u : r.u = 0
  v : r.v = 0
  st : r.st = false
theorem arc_f (l : List Kn) (i : Nat) : ArcF l i (arcW l i) := by
  unfold arcW
  split <;> exact ⟨rfl, rfl, rfl, rfl, rfl, rfl, rfl, rfl, rfl⟩
theorem ok_alone {l : List Kn} {c : Bool} (hv : validK l c = true) (h : ∀ r ∈ arcs0 l c, Alone r) : ∀ r ∈ (arcs0 l c).map fin1, ArOk r := by
  intro r hr
  obtain ⟨q, hq, rfl⟩ := List.mem_map.1 hr
  have hal := h q hq
  obtain ⟨i, hi, e⟩ := arcs0_mem hq
  have hl := (valid_len hv).1
  have hb := settled_b (c := c) (valid_b hv) (by omega)
  have hT := settled_T hv
  have hil : i < (settledW l c).length := by rw [settled_len]; have := segs_le (l := l) (c := c); omega
  have hjl : (i + 1) % (settledW l c).length < (settledW l c).length := Nat.mod_lt _ (by omega)
  have F := arc_f (settledW l c) i
  rw [← e] at F
  have b1 := (hb i hil).1
  have b2 := (hb _ hjl).1
  have t1 := (hT i hil).2
  have t2 := (hT _ hjl).1
  rw [← F.a] at t1
  rw [← F.b] at t2
  rw [← F.fx, ← F.fy] at b1
  rw [← F.tx, ← F.ty] at b2
  have hf : (fin1 q).fx = q.fx ∧ (fin1 q).fy = q.fy ∧ (fin1 q).tx = q.tx ∧ (fin1 q).ty = q.ty ∧ (fin1 q).a = q.a ∧ (fin1 q).b = q.b ∧ (fin1 q).u = q.u ∧ (fin1 q).v = q.v := by
    unfold fin1
    split <;> exact ⟨rfl, rfl, rfl, rfl, rfl, rfl, rfl, rfl⟩
  obtain ⟨e1, e2, e3, e4, e5, e6, e7, e8⟩ := hf
  refine ⟨by rw [e1, e2]; exact b1, by rw [e3, e4]; exact b2, ?_, by rw [e7, F.u]; omega, by rw [e8, F.v]; omega⟩
  rw [e5, e6]
  rcases hal with h3 | ⟨h1, h2⟩
  · exact .inl h3
  · have i1 : inT q.a.t = true := t1.resolve_left (by omega)
    have i2 : inT q.b.t = true := t2.resolve_left (by omega)
    simp only [inT, Bool.and_eq_true, decide_eq_true_eq] at i1 i2
    exact .inr ⟨i1.1, i1.2, i2.1, i2.2⟩
end

section
set_option maxRecDepth 20000
attribute [local go_sem] eqk27' clKnsL clArsL clUvR clPtsT clPtsR eqk44'
def sA : Sd := ⟨0, 65536, 0, 0, 0⟩
def kA : Kn := ⟨0, 0, sA, sA⟩
def kB : Kn := ⟨196608, 0, sA, sA⟩
def lA : List Kn := [kA, kB]
theorem vA : validK lA false = true := by kernel_rfl
theorem vA2 : validK lA true = true := by kernel_rfl
theorem aloneA : ∀ r ∈ arcs0 lA false, Alone r := by
  intro r hr
  obtain ⟨i, hi, rfl⟩ := arcs0_mem hr
  have : i = 0 := by
    have : segs lA false = 1 := rfl
    omega
  subst this
  have F := arc_f (settledW lA false) 0
  refine .inr ⟨?_, ?_⟩
  · rw [F.a]; kernel_rfl
  · rw [F.b]; kernel_rfl
theorem slvA : Slv lA false ((arcs0 lA false).map fin1) := slv_alone (by decide) (by decide) aloneA
theorem chooseA : PFun Try.prog 13 [Kns lA, Bo false] (PaR [(0, 0), (65536, 0), (131072, 0), (196608, 0)] false) := by
  have h := choose13 lA false _ vA slvA (ok_alone vA aloneA)
  have e : chR ((lA.getD 0 zK).x, (lA.getD 0 zK).y) (segs lA false) false ((arcs0 lA false).map fin1) = PaR [(0, 0), (65536, 0), (131072, 0), (196608, 0)] false := by kernel_rfl
  rwa [e] at h
theorem anglesA : PFun Try.prog 14 [Kns lA, Bo false] (.t [.ro 2 [[I 0, I 0]], I 0]) := by
  have h := angles14 lA false _ vA slvA
  have e : ((arcs0 lA false).map fin1).map UvC = [[I 0, I 0]] := by kernel_rfl
  rwa [e] at h
theorem ctlT {z w : Int × Int} {u v ta tb : Int} (h1 : okCt z w u v ta tb = true) (h2 : (inP (alB z w (circW u) (circW v) ta) && inP (alC z w (circW u) (circW v) tb)) = true) :
    ctlR z w u v ta tb = .t [Pt (alB z w (circW u) (circW v) ta), Pt (alC z w (circW u) (circW v) tb), I 0] := by
  unfold ctlR alongR ptR
  rw [if_pos h1, if_pos h2]
theorem ctlB : ∃ b c, inP b = true ∧ inP c = true ∧ PFun Try.prog 20 [Pt (0, 0), Pt (196608, 0), I 0, I 0, I 65536, I 65536] (.t [Pt b, Pt c, I 0]) := by
  have h := controls20 (0, 0) (196608, 0) 0 0 65536 65536
  have h2 : (inP (alB (0, 0) (196608, 0) (circW 0) (circW 0) 65536) && inP (alC (0, 0) (196608, 0) (circW 0) (circW 0) 65536)) = true := by kernel_rfl
  rw [ctlT (by kernel_rfl) h2] at h
  rw [Bool.and_eq_true] at h2
  exact ⟨_, _, h2.1, h2.2, h⟩
theorem velA : ∃ x, PFun Try.prog 18 [I 268435456, I 0, I 0, I 268435456, I 65536] (.t [I x, I 0]) := by
  have h := velocity18 268435456 0 0 268435456 65536
  unfold velR at h
  rw [if_pos (by kernel_rfl)] at h
  exact ⟨_, h⟩
theorem chooseN : PFun Try.prog 13 [nilS, Bo false] (.t [.g [nilS, Bo false], I 2]) :=
  PFun.sub (choose13_bad [] false (by decide) (by kernel_rfl)) (.cons (Sub.nil 12) (.cons (.refl _) .nil))
theorem validA : PFun Try.prog 17 [Kns lA, Bo true] (Bo true) := by
  have h := valid17 lA true (by decide)
  rwa [vA2] at h
theorem sameA : PFun Try.prog 24 [Pts [(0, 0), (65536, 0), (131072, 0), (196608, 0)], Pts [(0, 0), (65536, 0), (131072, 0), (196608, 0)]] (Bo true) := by
  have h := same24 [(0, 0), (65536, 0), (131072, 0), (196608, 0)] [(0, 0), (65536, 0), (131072, 0), (196608, 0)] (by decide)
  rwa [decide_eq_true rfl] at h
theorem awake10 : PFun Try.prog 10 [] (Bo true) := by
  obtain ⟨b, c, hb, hc, hct⟩ := ctlB
  obtain ⟨x, hve⟩ := velA
  have hatb := at11 b
  have hatc := at11 c
  rw [hb] at hatb
  rw [hc] at hatc
  refine PFun.intro 400 mixed Try.func10 (by kernel_rfl) rfl (by first | exact .v _ | (simp [Cl_v, Cl_t, Cl_g, Cl_fn, Cl_rp, Cl_ro]; done) | (simp [Cl_v, Cl_t, Cl_g, Cl_fn, Cl_rp, Cl_ro, or_imp, forall_and]; done) | (split <;> simp [Cl_v, Cl_t, Cl_g, Cl_fn, Cl_rp, Cl_ro])) (Nat.le_of_ble_eq_true rfl) ?_; rw [Try.ntmps10, Try.results10]
  simp -dsimp -implicitDefEqProofs only [go_sem, seval]
  refine AtFn.pure0 (knot12 0 0 0 0) ?_
  simp -dsimp -implicitDefEqProofs only [go_sem, seval]
  refine AtFn.pure0 (knot12 196608 0 0 0) ?_
  simp -dsimp -implicitDefEqProofs only [go_sem, seval]
  refine AtFn.le ⟨98, tl [(1, Kns lA), (17, Kns lA)], [], 0, .nil⟩ [Kns lA, Bo false] (Le.ftl (Ls := []) (y := none) [0] [] (by simp -dsimp -implicitDefEqProofs only [go_sem, seval, fz]; exact ⟨rfl, rfl⟩) (by simp -dsimp -implicitDefEqProofs only [go_sem, seval, fz, fzB]) (by simp) (by simp [sg]) trivial) (by intro fo xs ts h; cases h; exact ⟨by simp -dsimp -implicitDefEqProofs only [go_sem, seval], by simp -dsimp -implicitDefEqProofs only [go_sem, seval]⟩) ?_
  refine AtFn.pure0 chooseA ?_
  unfold PaR
  simp -dsimp -implicitDefEqProofs only [go_sem, seval]
  refine AtFn.pure0 anglesA ?_
  simp -dsimp -implicitDefEqProofs only [go_sem, seval]
  refine AtFn.pure0 hct ?_
  simp -dsimp -implicitDefEqProofs only [go_sem, seval]
  refine AtFn.pure0 hve ?_
  simp -dsimp -implicitDefEqProofs only [go_sem, seval]
  refine AtFn.pure0 chooseN ?_
  simp -dsimp -implicitDefEqProofs only [go_sem, seval]
  refine AtFn.pure sameA ?_
  simp -dsimp -implicitDefEqProofs only [go_sem, seval]
  refine ⟨rfl, AtFn.pure0 hatb ?_⟩
  simp -dsimp -implicitDefEqProofs only [go_sem, seval]
  refine AtFn.pure0 hatc ?_
  simp -dsimp -implicitDefEqProofs only [go_sem, seval]
  refine AtFn.pure0 validA ?_
  simp -dsimp -implicitDefEqProofs only [go_sem, seval]
end

section
set_option maxRecDepth 20000
def gP (l : List (Int × Int)) (i : Nat) : Int × Int := l.getD i (0, 0)
def valK (cs : List Int) (i : Nat) : Int := if cs.length = 0 then 65536 else cs.getD (i % cs.length) 0 * 7
def stK (p : Int × Int) (v : Int) : Kn := ⟨p.1, p.2, ⟨2, 65536, v, 0, 0⟩, ⟨2, 65536, v, 0, 0⟩⟩
def knP (at' : List (Int × Int)) (cs : List Int) (i : Nat) : List Kn := (List.range i).map fun j => stK (gP at' j) (valK cs j)
def knL (at' : List (Int × Int)) (cs : List Int) : List Kn := knP at' cs at'.length
structure GoodS (l0 l : List Kn) : Prop where
  len : l.length = l0.length
  x : ∀ k, k < l0.length → (l.getD k zK).x = (l0.getD k zK).x
  y : ∀ k, k < l0.length → (l.getD k zK).y = (l0.getD k zK).y
  L : ∀ k, k < l0.length → ((l.getD k zK).l.op = 2 ∧ (l.getD k zK).l.t = 65536) ∨ ((l.getD k zK).l.op = 3 ∧ (l.getD k zK).l.x = (l0.getD k zK).x ∧ (l.getD k zK).l.y = (l0.getD k zK).y ∧ samePt (l0.getD k zK) (l0.getD ((k + 1) % l0.length) zK))
  C : ∀ k, k < l0.length → ((l.getD k zK).c.op = 2 ∧ (l.getD k zK).c.t = 65536) ∨ ((l.getD k zK).c.op = 3 ∧ (l.getD k zK).c.x = (l0.getD k zK).x ∧ (l.getD k zK).c.y = (l0.getD k zK).y)
  P : ∀ k, k < l0.length → ((l.getD k zK).l.op = 3 ↔ (l.getD ((k + 1) % l0.length) zK).c.op = 3)
def thr (z w b : Int × Int) : Prop := (-2 ≤ 3 * (b.1 - z.1) - (w.1 - z.1) ∧ 3 * (b.1 - z.1) - (w.1 - z.1) ≤ 2) ∧ (-2 ≤ 3 * (b.2 - z.2) - (w.2 - z.2) ∧ 3 * (b.2 - z.2) - (w.2 - z.2) ≤ 2)
structure StrOk (z w : Int × Int) (r : Ar) : Prop where
  f : (r.fx, r.fy) = z
  t : (r.tx, r.ty) = w
  u : r.u = 0
  v : r.v = 0
  k : (r.a.op = 3 ∧ (r.a.x, r.a.y) = z ∧ (r.b.x, r.b.y) = w ∧ z = w) ∨ (r.a.op = 2 ∧ r.a.t = 65536 ∧ r.b.t = 65536 ∧ r.st = true)
end

section
set_option maxRecDepth 20000
attribute [local go_sem] eqk27' clKnsL clArsL clUvR clPtsT clPtsR eqk44'
structure Ans (at' : List (Int × Int)) (cs : List Int) (c : Bool) (n : Nat) (pts : List (Int × Int)) (uv : AV) : Prop where
  ch : PFun Try.prog 13 [Kns (knL at' cs), Bo c] (PaR pts c)
  an : PFun Try.prog 14 [Kns (knL at' cs), Bo c] (.t [uv, I 0])
  uv : uv = .ro 2 (List.replicate n [I 0, I 0]) ∨ (n = 0 ∧ uv = nilS)
  len : pts.length = if c then 3 * n else 3 * n + 1
  pt : ∀ i, i < n → ∃ b d, pts[3 * i]? = some (gP at' i) ∧ pts[3 * i + 1]? = some b ∧ pts[3 * i + 2]? = some d ∧ inP b = true ∧ inP d = true ∧ thr (gP at' i) (gP at' ((i + 1) % at'.length)) b ∧ thr (gP at' ((i + 1) % at'.length)) (gP at' i) d
end

section
set_option maxRecDepth 20000
def valN : List Int → Int
  | [] => 0
  | d :: r => d + 4294967296 * valN r
def okD (D : List Int) : Prop := ∀ d ∈ D, 0 ≤ d ∧ d < 4294967296
def trimW : List Int → List Int
  | [] => []
  | d :: r => if trimW r = [] ∧ d = 0 then [] else d :: trimW r
theorem val_nn : ∀ {D : List Int}, okD D → 0 ≤ valN D
  | [], _ => Int.le_refl _
  | d :: r, h => by
    have h1 := h d List.mem_cons_self
    have h2 := val_nn (D := r) (fun x hx => h x (List.mem_cons_of_mem _ hx))
    simp only [valN]; omega
theorem trim_val : ∀ (D : List Int), valN (trimW D) = valN D
  | [] => rfl
  | d :: r => by
    have ih := trim_val r
    simp only [trimW]
    split
    · rename_i h
      rw [h.1] at ih
      simp only [valN] at ih ⊢
      omega
    · simp only [valN, ih]
def digF : Nat → Int → List Int
  | 0, _ => []
  | f + 1, n => if n ≤ 0 then [] else (n % 4294967296) :: digF f (n / 4294967296)
def dig (n : Int) : List Int := digF n.toNat n
theorem digF_fuel : ∀ (f g : Nat) (n : Int), n.toNat ≤ f → n.toNat ≤ g → digF f n = digF g n
  | 0, g, n, hf, hg => by
    have : n ≤ 0 := by omega
    cases g with
    | zero => rfl
    | succ g => simp [digF, this]
  | f + 1, g, n, hf, hg => by
    cases g with
    | zero =>
      have : n ≤ 0 := by omega
      simp [digF, this]
    | succ g =>
      simp only [digF]
      split
      · rfl
      · rw [digF_fuel f g (n / 4294967296) (by omega) (by omega)]
theorem dig_0 {n : Int} (h : n ≤ 0) : dig n = [] := by
  unfold dig
  rw [show n.toNat = 0 by omega]
  rfl
theorem dig_s {n : Int} (h : 0 < n) : dig n = (n % 4294967296) :: dig (n / 4294967296) := by
  unfold dig
  obtain ⟨f, hf⟩ : ∃ f, n.toNat = f + 1 := ⟨n.toNat - 1, by omega⟩
  rw [hf]
  simp only [digF]
  rw [if_neg (by omega), digF_fuel f (n / 4294967296).toNat (n / 4294967296) (by omega) (Nat.le_refl _)]
theorem trim_dig : ∀ {D : List Int}, okD D → trimW D = dig (valN D)
  | [], _ => (dig_0 (by simp [valN])).symm
  | d :: r, h => by
    have h1 := h d List.mem_cons_self
    have hr : okD r := fun x hx => h x (List.mem_cons_of_mem _ hx)
    have ih := trim_dig hr
    have hn := val_nn hr
    simp only [trimW, valN]
    by_cases h0 : d + 4294967296 * valN r ≤ 0
    · have hd : d = 0 := by omega
      have hv : valN r = 0 := by omega
      rw [dig_0 h0, if_pos]
      refine ⟨?_, hd⟩
      rw [ih, hv, dig_0 (Int.le_refl _)]
    · rw [dig_s (by omega), show (d + 4294967296 * valN r) % 4294967296 = d by omega, show (d + 4294967296 * valN r) / 4294967296 = valN r by omega, ← ih, if_neg]
      rintro ⟨h2, h3⟩
      have := trim_val r
      rw [h2] at this
      simp only [valN] at this
      omega
theorem dig_ok (n : Int) : okD (dig n) := by
  obtain ⟨f, hf⟩ : ∃ f, f = n.toNat := ⟨_, rfl⟩
  induction f using Nat.strongRecOn generalizing n with
  | _ f ih =>
    by_cases h : n ≤ 0
    · rw [dig_0 h]; intro x hx; simp at hx
    · rw [dig_s (by omega)]
      intro x hx
      rcases List.mem_cons.1 hx with rfl | hx
      · omega
      · exact ih (n / 4294967296).toNat (by omega) (n / 4294967296) rfl x hx
theorem dig_val {n : Int} (h : 0 ≤ n) : valN (dig n) = n := by
  obtain ⟨f, hf⟩ : ∃ f, f = n.toNat := ⟨_, rfl⟩
  induction f using Nat.strongRecOn generalizing n with
  | _ f ih =>
    by_cases h0 : n ≤ 0
    · rw [dig_0 h0]; simp only [valN]; omega
    · rw [dig_s (by omega)]
      have := ih (n / 4294967296).toNat (by omega) (n := n / 4294967296) (by omega) rfl
      simp only [valN, this]
      omega
theorem dig_nil {n : Int} (h : 0 ≤ n) : dig n = [] ↔ n = 0 := by
  constructor
  · intro e
    have := dig_val h
    rw [e] at this
    simp only [valN] at this
    omega
  · intro e; exact dig_0 (by omega)
abbrev U32C (x : Int) : List AV := [.v (.int .u32 x)]
abbrev NatA (D : List Int) : AV := .ro 1 (D.map U32C)
theorem clU32 (D : List Int) : (∀ c ∈ D.map U32C, ∀ s ∈ c, Cl s) ↔ True := iff_true_intro (fun c hc s hs => by obtain ⟨r, _, rfl⟩ := List.mem_map.1 hc; simp at hs; subst hs; exact .v _)
theorem clNat (D : List Int) : Cl (NatA D) ↔ True := iff_true_intro (.ro ((clU32 D).2 trivial))
attribute [local go_sem] clU32 clNat
theorem getU {D : List Int} {i : Nat} (h : i < D.length) : (D.map U32C)[i]? = some (U32C (D.getD i 0)) := by rw [List.getElem?_map, getI h]; rfl
theorem trim_snoc : ∀ (D : List Int), trimW (D ++ [0]) = trimW D
  | [] => by simp [trimW]
  | d :: r => by simp only [List.cons_append, trimW, trim_snoc r]
theorem trim_nz : ∀ (D : List Int) (d : Int), d ≠ 0 → trimW (D ++ [d]) = D ++ [d]
  | [], d, h => by simp [trimW, h]
  | x :: r, d, h => by
    simp only [List.cons_append, trimW, trim_nz r d h]
    rw [if_neg (by simp)]
theorem trim90 (D : List Int) (hl : D.length < 2 ^ 40) : PFun Try.prog 90 [NatA D] (NatA (trimW D)) := by
  refine PFun.intro 400 mixed Try.func90 (by kernel_rfl) rfl ((clNat _).2 trivial) (Nat.le_of_ble_eq_true rfl) ?_; rw [Try.ntmps90, Try.results90]
  simp -dsimp -implicitDefEqProofs only [go_sem, seval]
  refine ⟨{i : Nat // i ≤ D.length ∧ trimW (D.take i) = trimW D}, fun i => ⟨21, tl [(0, NatA (D.take i.1))], [], 0, .nil⟩, fun i => i.1,
    ⟨⟨D.length, Nat.le_refl _, by rw [List.take_length]⟩, Le.tl (Ls := []) (y := none) [] (by simp -dsimp -implicitDefEqProofs only [go_sem, seval, List.take_length]) (by simp) (by simp) (by simp) trivial⟩, fun i => ?_⟩
  obtain ⟨i, hi, ht⟩ := i
  have hlen : (D.take i).length = i := by rw [List.length_take]; omega
  cases i with
  | zero =>
    rw [List.take_zero] at ht
    simp -dsimp -implicitDefEqProofs only [go_sem, seval, List.length_map, hlen]
    rw [← ht]; rfl
  | succ i =>
    have w1 : wr (((i + 1 : Nat) : Int) - 1) = ((i : Nat) : Int) := by rw [wr_in] <;> omega
    have hg := getU (D := D.take (i + 1)) (i := i) (by omega)
    have c0 : (0 : Int) < ((i + 1 : Nat) : Int) := by omega
    have hd : D.take (i + 1) = D.take i ++ [D.getD i 0] := by rw [List.take_add_one, getI (by omega)]; rfl
    have hgd : (D.take (i + 1)).getD i 0 = D.getD i 0 := by
      simp only [List.getD, List.getElem?_take]
      rw [if_pos (by omega)]
    have htt : List.take i ((D.take (i + 1)).map U32C) = (D.take i).map U32C := by rw [← List.map_take, List.take_take, Nat.min_eq_left (by omega)]
    rw [hgd] at hg
    simp -dsimp -implicitDefEqProofs only [go_sem, seval, List.length_map, hlen, w1, hg, c0, Int.natCast_nonneg, Int.toNat_natCast, htt]
    refine ⟨fun h0 => ⟨by omega, ⟨i, by omega, ?_⟩, by show i < i + 1; omega, Le.tl (Ls := []) (y := none) [] (by simp -dsimp -implicitDefEqProofs only [go_sem, seval]) (by simp) (by simp) (by simp) trivial⟩, fun h0 => ?_⟩
    · rw [hd, h0, trim_snoc] at ht
      exact ht
    · rw [← ht, hd, trim_nz _ _ h0]
theorem nat90 (D : List Int) (hl : D.length < 2 ^ 40) (h : okD D) : PFun Try.prog 90 [NatA D] (NatA (dig (valN D))) := by
  have := trim90 D hl
  rwa [trim_dig h] at this
theorem wu32 {x : Int} (h1 : 0 ≤ x) (h2 : x < 4294967296) : IntKind.u32.wrap x = x := by
  simp [IntKind.wrap]
  first | omega | (simp [IntKind.signed, IntKind.bits] <;> omega)
theorem wu32m (x : Int) : IntKind.u32.wrap x = x % 4294967296 := by
  simp [IntKind.wrap]
  first | rfl | (simp [IntKind.signed, IntKind.bits])
theorem of91 (n : Int) (h1 : 0 ≤ n) (h2 : n ≤ 18446744073709551615) : PFun Try.prog 91 [.v (.int .u64 n)] (NatA (dig n)) := by
  have ok : okD [n % 4294967296, n / 4294967296] := by
    intro x hx
    simp only [List.mem_cons, List.not_mem_nil, or_false] at hx
    rcases hx with rfl | rfl <;> omega
  have hn := nat90 [n % 4294967296, n / 4294967296] (by simp) ok
  have hv : valN [n % 4294967296, n / 4294967296] = n := by simp only [valN]; omega
  rw [hv] at hn
  have s1 : n.fdiv (2 ^ min 32 64) = n / 4294967296 := by rw [show ((2 : Int) ^ min 32 64) = 4294967296 by decide, Int.fdiv_eq_ediv_of_nonneg _ (by decide)]
  have s2 : (n / 4294967296) % 4294967296 = n / 4294967296 := by omega
  refine PFun.intro 400 mixed Try.func91 (by kernel_rfl) rfl ((clNat _).2 trivial) (Nat.le_of_ble_eq_true rfl) ?_; rw [Try.ntmps91, Try.results91]
  simp -dsimp -implicitDefEqProofs only [go_sem, seval, s1, wu32m, s2]
  refine AtFn.pure hn ?_
  simp -dsimp -implicitDefEqProofs only [go_sem, seval]
  rfl
end

section
set_option maxRecDepth 20000
attribute [local go_sem] clU32 clNat
def carW (a b : List Int) : Nat → Int
  | 0 => 0
  | i + 1 => (carW a b i + a.getD i 0 + b.getD i 0) / 4294967296
def addI (a b : List Int) (i : Nat) : List Int := (List.range i).map fun j => (carW a b j + a.getD j 0 + b.getD j 0) % 4294967296
theorem pow_s (i : Nat) : (4294967296 : Int) ^ (i + 1) = 4294967296 * 4294967296 ^ i := by rw [Int.pow_succ, Int.mul_comm]
theorem val_snoc : ∀ (D : List Int) (d : Int), valN (D ++ [d]) = valN D + 4294967296 ^ D.length * d
  | [], d => by simp [valN]
  | x :: r, d => by
    simp only [List.cons_append, valN, val_snoc r d, List.length_cons, pow_s]
    rw [Int.mul_add, Int.mul_assoc]
    omega
theorem okD_get {D : List Int} (h : okD D) (i : Nat) : 0 ≤ D.getD i 0 ∧ D.getD i 0 < 4294967296 := by
  by_cases hi : i < D.length
  · exact h _ (List.mem_of_getElem? (getI hi))
  · rw [show D.getD i 0 = 0 by simp [List.getD, List.getElem?_eq_none (Nat.le_of_not_lt hi)]]
    decide
theorem car_b {a b : List Int} (ha : okD a) (hb : okD b) : ∀ i, 0 ≤ carW a b i ∧ carW a b i ≤ 1
  | 0 => by simp [carW]
  | i + 1 => by
    have ih := car_b ha hb i
    have h1 := okD_get ha i
    have h2 := okD_get hb i
    simp only [carW]
    omega
theorem take_suc' (D : List Int) (i : Nat) (h : i < D.length) : D.take (i + 1) = D.take i ++ [D.getD i 0] := by rw [List.take_add_one, getI h]; rfl
theorem val_take (D : List Int) (i : Nat) : valN (D.take (i + 1)) = valN (D.take i) + 4294967296 ^ i * D.getD i 0 := by
  by_cases hi : i < D.length
  · rw [take_suc' D i hi, val_snoc, List.length_take, Nat.min_eq_left (by omega)]
  · rw [List.take_of_length_le (by omega), List.take_of_length_le (by omega), show D.getD i 0 = 0 by simp [List.getD, List.getElem?_eq_none (Nat.le_of_not_lt hi)], Int.mul_zero, Int.add_zero]
theorem addI_suc (a b : List Int) (i : Nat) : addI a b (i + 1) = addI a b i ++ [(carW a b i + a.getD i 0 + b.getD i 0) % 4294967296] := by simp [addI, List.range_succ]
theorem addI_len (a b : List Int) (i : Nat) : (addI a b i).length = i := by simp [addI]
theorem addI_val (a b : List Int) : ∀ i, valN (addI a b i) + 4294967296 ^ i * carW a b i = valN (a.take i) + valN (b.take i)
  | 0 => by simp [addI, carW, valN]
  | i + 1 => by
    have ih := addI_val a b i
    rw [addI_suc, val_snoc, addI_len, val_take, val_take, pow_s]
    simp only [carW]
    obtain ⟨P, hP⟩ : ∃ P, P = (4294967296 : Int) ^ i := ⟨_, rfl⟩
    rw [← hP] at ih ⊢
    have e : 4294967296 * ((carW a b i + a.getD i 0 + b.getD i 0) / 4294967296) + (carW a b i + a.getD i 0 + b.getD i 0) % 4294967296 = carW a b i + a.getD i 0 + b.getD i 0 := Int.mul_ediv_add_emod _ _
    have e2 : P * (4294967296 * ((carW a b i + a.getD i 0 + b.getD i 0) / 4294967296) + (carW a b i + a.getD i 0 + b.getD i 0) % 4294967296) = P * (carW a b i + a.getD i 0 + b.getD i 0) := by rw [e]
    grind
theorem addI_ok {a b : List Int} (ha : okD a) (hb : okD b) (i : Nat) : okD (addI a b i) := by
  intro x hx
  obtain ⟨j, _, rfl⟩ := List.mem_map.1 hx
  omega
end

end Go.Proofs.Ytckbchkkjnahlaa
