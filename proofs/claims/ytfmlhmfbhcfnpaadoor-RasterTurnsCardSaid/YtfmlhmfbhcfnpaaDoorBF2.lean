/- What functions of the given program answer, part 2. Conditions: each theorem speaks for itself. -/
import Derived.Test.YtfmlhmfbhcfnpaaDoorBTy
import Derived.Test.YtfmlhmfbhcfnpaaDoorBF1
set_option linter.unusedSimpArgs false
set_option linter.unusedVariables false
namespace Go.Proofs.YtfmlhmfbhcfnpaaDoor
open Go Go.Eng Go.RowKit
attribute [local go_sem ↓] qE_move qE_assign qE_pick qE_load qE_fieldAddr qE_indexAddr qE_extract qE_binOp qE_neg qE_not qE_convert qE_makeFunc qE_build qE_len qE_max2 qE_min2 qE_usd qE_nilCheck qE_slice vc_end vc_skip vc_scope vc_ret vc_seq vc_cond vc_block vc_exit vc_region vc_draw vc_rangeFunc vc_loop vc_blk vc_lp vc_o_nil vc_o vc_o_guard onK_eq oK_move oK_assign oK_pick oK_load oK_fieldAddr oK_indexAddr oK_index oK_extract oK_binOp oK_unOp oK_convert oK_makeFunc oK_nilCheck oK_slice oK_build oK_len oK_max oK_ustr oK_min onN_eq oK_box oK_alloc oK_buildSlice oK_makeSlice onH_eq oK_store onA_eq oK_append oK_call oK_range oK_next bV_add bV_sub bV_mul bV_quo bV_rem bV_and bV_or bV_shl bV_shr bV_eql bV_neq bV_lss bV_leq bV_gtr bV_geq bV_add_s bV_eql_s bV_neq_s vcQ_nil vcQ_cons Q_move Q_assign Q_load Q_fieldAddr Q_indexAddr Q_index Q_binOp Q_nilCheck Q_slice Q_build Q_len Q_usd Q_min Q_buildSlice onQA_eq Q_append Q_call qE_index tailB_nil tailB_true onS_eq tailB_store onQ_eq onQB_eq loadE indexE
attribute [local go_sem] force_eq optK_some optE_some optE_none vK_v bK_v tK_t fnK_fn fyK_fn fyK_y nK_ptr pK_ptr pK_rp brK_true brK_false brK_not evA_tmp evA_const evA_func putA_some putA_none pushA_eq slots_zero tl_nil tl_cons find_cons find_nil setN_cons setN_nil dropN_nil dropN_cons loE_none loE_some hiE_none hiE_some slE_sl slE_ro slE_str bE_pp bE_p0 bE_00 bE_i bE_s bE_eql intsA_nil intsA_cons slK_sl ptrV_eql ptrV_neq gdK_b popTo_blk popTo_c popTo_lp nilE_tmp nilE_int nilE_str nilE_ptr nilE_nil srcE_ro srcE_sl srcE_str dstE_sl dstE_nil apK_E fin_eq res_nil res_tmp res_cell tup1 tup0 optA_some frz_v frz_ro frz_rp frz_g frz_fn frz_ptr frz_sl optL_some nm_v nm_ro nm_rp nm_g nm_fn nm_ptr nm_sl cells_v cells_g cells_ro cells_ptr cells_sl one_int one_string one_slice oneA_v oneA_ro oneA_ptr oneA_sl ofV_int ofV_bool ofV_string ofV_slice ofV_nilFunc ofV_pointer len_ro len_sl asI_int fill_nil fill_cons chunks_nil chunks_cons DrawK_eq idR_eq addB_some roB_nil dstQ_ez sg_nil sg_cons ren_v ren_nil ren_ptr ren_sl ren_ro ren_rp iK_ro iK_sl ixE_s RfEnd_eq RfQ_eq RfBody_eq takeA_00 takeA_s updL_cons updL_nil nil_eq maskE_eq i_InlQ i_tup2 i_RenF_nil i_RenF_cons i_cut_nil i_cut_cons wrap_wr brK_dec maskH_eq upd_get slots_succ Cl_v Cl_ro Cl_rp Cl_fn Cl_g Cl_t g_put0 g_put1 u_nil u_tmp u_cell u_fin Bool.false_eq_true decide_true decide_false beq_self_eq_true true_and and_true ne_eq not_true not_false_eq_true List.elem_cons List.elem_nil List.contains_cons List.contains_nil List.getD_cons_zero List.getD_cons_succ Int.cast_ofNat_Int Bool.or_true Bool.true_or Bool.or_false Bool.false_or if_true if_false List.toList_toArray List.map_cons List.map_nil List.cons_append List.nil_append List.append_nil List.flatMap_cons List.flatMap_nil List.getElem?_cons_zero List.getElem?_cons_succ List.length_cons List.length_nil List.drop_succ_cons List.drop_zero List.take_succ_cons List.take_zero List.all_cons List.all_nil List.set_cons_zero List.set_cons_succ Option.bind_some Option.bind_none Option.map_some Option.map_none List.headD_cons List.tail_cons List.getElem?_toArray beq_true beq_false Bool.not_true Bool.not_false Bool.true_and Bool.and_true Bool.false_and Bool.and_false newCh Option.some.injEq exists_eq_left' sg_nil sg_cons List.mem_cons List.not_mem_nil forall_eq_or_imp forall_eq false_implies implies_true or_false false_or false_and and_false or_true true_or exists_false Option.isSome_some Option.isSome_none List.range_zero
attribute [local go_sem] T.sz3 T.ag3 T.ik3 T.us3 T.sz5 T.by5 T.ag5 T.ik5 T.us5 T.ze5 T.sz9 T.by9 T.ag9 T.sl9 T.ar9 T.pt9 T.ik9 T.st9 T.ze9 T.us21 T.sz23 T.by23 T.ag23 T.sl23 T.ar23 T.pt23 T.ik23 T.us23 T.ux23 T.ze23 T.sz25 T.ag25 T.sf25 T.ze25 T.fl25_0 T.fl25_1 T.fl25_2 T.bu25 T.sz26 T.ag26 T.sf26 T.ze26 T.sz34 T.ag34 T.sl34 T.ar34 T.sf34 T.ze34 T.bu34 T.sl40 T.ik40 T.us40 T.ux40 T.sz50 T.by50 T.ag50 T.sl50 T.ar50 T.sf50 T.ze50 T.bu50 T.sl68 T.ar68 T.pt68 T.sz80 T.ag80 T.ik80 T.sf82 T.ze82 T.fl82_0 T.fl82_1 T.sz83 T.ag83 T.sl83 T.ik83 T.us83 T.ux83 T.sl91 T.ik117 -- NOREP
section
def mkR (w h : Nat) (f : Nat → Nat → Int) : Ra := ⟨w, h, (List.range (w * h)).map fun k => f (k % w) (k / w)⟩
def fillP (N : Nat) (f : Nat → Int) (i : Nat) : List Int := (List.range N).map fun k => if k < i then f k else 0
theorem fillP_0 (N : Nat) (f : Nat → Int) : fillP N f 0 = List.replicate N 0 := by
  unfold fillP
  refine List.ext_getElem? fun j => ?_
  rw [List.getElem?_map, List.getElem?_replicate]
  split
  · rename_i h; rw [List.getElem?_range h]; rfl
  · rename_i h; rw [List.getElem?_eq_none (by simp; omega)]; rfl
theorem fillP_n (N : Nat) (f : Nat → Int) : fillP N f N = (List.range N).map f := by
  unfold fillP
  refine List.map_congr_left fun j hj => ?_
  rw [if_pos (List.mem_range.1 hj)]
theorem fillP_len (N : Nat) (f : Nat → Int) (i : Nat) : (fillP N f i).length = N := by simp [fillP]
theorem pxC_len (l : List Int) : (pxC l).length = l.length := by simp [pxC]
theorem pxC_get (l : List Int) (i : Nat) : (pxC l)[i]? = (l[i]?).map fun x => [U x] := by simp [pxC]
theorem clPx (l : List Int) : ∀ c ∈ pxC l, ∀ s ∈ c, Cl s := fun c hc s hs => by
  obtain ⟨x, _, rfl⟩ := List.mem_map.1 hc
  rw [List.mem_singleton.1 hs]; exact .v _
theorem clPxT (l : List Int) : (∀ c ∈ pxC l, ∀ s ∈ c, Cl s) ↔ True := iff_true_intro (clPx l)
theorem clRa (r : Ra) : Cl (RaA r) := by simp [Cl_g, Cl_v, Cl_ro, clPxT]
theorem fillP_set (N : Nat) (f : Nat → Int) (i : Nat) (x : Int) (hx : x = f i) : (pxC (fillP N f i)).set i [U x] = pxC (fillP N f (i + 1)) := by
  subst hx
  unfold pxC
  rw [← List.map_set]
  congr 1
  unfold fillP
  refine List.ext_getElem? fun j => ?_
  rw [List.getElem?_set]
  by_cases hj : j < N
  · simp only [List.length_map, List.length_range, List.getElem?_map, List.getElem?_range hj, Option.map_some]
    by_cases hij : i = j
    · subst hij
      rw [if_pos rfl, if_pos hj, if_pos (by omega)]
    · rw [if_neg hij]
      by_cases h2 : j < i
      · rw [if_pos h2, if_pos (by omega)]
      · rw [if_neg h2, if_neg (by omega)]
  · simp only [List.length_map, List.length_range]
    rw [List.getElem?_eq_none (by simp; omega), List.getElem?_eq_none (by simp; omega)]
    split
    · rw [if_neg (by omega)]
    · rfl
theorem renL_cl2 {σ : Nat → Nat} {ns : List Nat} {l l' : List (List AV)} (h : l = l') (hc : ∀ c ∈ l', ∀ s ∈ c, Cl s) : RenL σ ns l l' := renL_cl h (h ▸ hc)
theorem prodN {w h : Nat} (hw : w ≤ 256) (hh : h ≤ 256) : w * h ≤ 65536 := Nat.mul_le_mul hw hh
theorem tmodN (a b : Nat) : ((a : Int)).tmod (b : Int) = ((a % b : Nat) : Int) := by rw [Int.tmod_eq_emod_of_nonneg (by omega)]; rfl
theorem tdivN (a b : Nat) : ((a : Int)).tdiv (b : Int) = ((a / b : Nat) : Int) := by rw [Int.tdiv_eq_ediv_of_nonneg (by omega)]; rfl
theorem takePx (l : List Int) (n : Nat) (h : l.length = n) : takeA 0 n (pxC l) = pxC l := by rw [takeA_eq, List.drop_zero, List.take_of_length_le (by rw [pxC_len]; omega)]
theorem mod_lt2 {i w h : Nat} (hi : i < w * h) : i % w < w ∧ i / w < h := by
  have hw : 0 < w := by rcases Nat.eq_zero_or_pos w with h0 | h0; (· subst h0; simp at hi); exact h0
  exact ⟨Nat.mod_lt _ hw, Nat.div_lt_of_lt_mul hi⟩
theorem wrN {n : Nat} (h : n ≤ 4611686018427387904) : wr (n : Int) = n := wr_in (by omega) (by omega)
theorem fillP_get {N : Nat} (f : Nat → Int) {i : Nat} (h : i < N) : (fillP N f i)[i]? = some 0 := by
  unfold fillP
  rw [List.getElem?_map, List.getElem?_range h, Option.map_some, if_neg (Nat.lt_irrefl i)]
set_option maxRecDepth 20000
theorem made69 (w h : Nat) (hw1 : 1 ≤ w) (hw : w ≤ 256) (hh1 : 1 ≤ h) (hh : h ≤ 256) (g : Nat) (caps : List AV) (hcl : ∀ a ∈ caps, Cl a) (f : Nat → Nat → Int)
    (hf : ∀ i j, i < w → j < h → PFun Tryd.prog g ([I (i : Int), I (j : Int)] ++ caps) (U (f i j))) : PFun Tryd.prog 69 [I w, I h, .fn g caps] (RaA (mkR w h f)) := by
  obtain ⟨N, hN⟩ : ∃ N, N = w * h := ⟨_, rfl⟩
  have hN2 : N ≤ 65536 := hN ▸ prodN hw hh
  have eN : wr ((w : Int) * (h : Int)) = (N : Int) := by rw [← Int.natCast_mul, ← hN, wr_in] <;> omega
  have hN3 : ((N : Nat) : Int) ≤ 274877906944 := by omega
  have hclF : Cl (.fn g caps) := Cl_fn.2 hcl
  have hfin : mkR w h f = ⟨w, h, fillP N (fun k => f (k % w) (k / w)) N⟩ := by unfold mkR; rw [fillP_n, hN]
  rw [hfin]
  refine PFun.intro 400 mixed Tryd.func69 (by kernel_rfl) rfl (clRa _) (Nat.le_of_ble_eq_true rfl) ?_; rw [Tryd.ntmps69, Tryd.results69]
  simp -dsimp -implicitDefEqProofs (maxSteps := 1000000) only [go_sem, ↓reduceIte, Nat.reduceAdd, Nat.reduceSub, Nat.reduceMul, Nat.reduceLT, Nat.reduceLeDiff, Nat.reduceEqDiff, Nat.reduceBEq, Nat.reduceBNe, Int.reduceToNat, Int.reduceLT, Int.reduceLE, Int.reduceNeg, reduceCtorEq, Int.reduceEq, Int.reduceNe, eN, Int.natCast_nonneg, Int.le_refl, hN3, Int.toNat_natCast, List.length_replicate]
  refine ⟨{i : Nat // i ≤ N}, fun i => ⟨36, tl [(0, I w), (1, I h), (2, .fn g caps), (6, .ptr 0 0 0), (7, .ptr 2 0 0), (18, I (N : Nat)), (19, I i.1)], [(2, ⟨3, [[I w, I h, .sl 1 0 N]]⟩), (1, ⟨1, pxC (fillP N (fun k => f (k % w) (k / w)) i.1)⟩), (0, ⟨3, [[I 0, I 0, .v (.slice none 0 0)]]⟩)], 3, .nil⟩, fun i => N - i.1,
    ⟨⟨0, by omega⟩, Le.tl (Ls := []) (y := none) [] ?_ ?_ (by simp) (by simp [sg]) trivial⟩, fun i => ?_⟩
  · simp -dsimp -implicitDefEqProofs (maxSteps := 1000000) only [go_sem, ↓reduceIte, Nat.reduceAdd, Nat.reduceSub, Nat.reduceMul, Nat.reduceLT, Nat.reduceLeDiff, Nat.reduceEqDiff, Nat.reduceBEq, Nat.reduceBNe, Int.reduceToNat, Int.reduceLT, Int.reduceLE, Int.reduceNeg, reduceCtorEq, Int.reduceEq, Int.reduceNe]
    exact .cl hclF
  · simp -dsimp -implicitDefEqProofs (maxSteps := 1000000) only [go_sem, ↓reduceIte, Nat.reduceAdd, Nat.reduceSub, Nat.reduceMul, Nat.reduceLT, Nat.reduceLeDiff, Nat.reduceEqDiff, Nat.reduceBEq, Nat.reduceBNe, Int.reduceToNat, Int.reduceLT, Int.reduceLE, Int.reduceNeg, reduceCtorEq, Int.reduceEq, Int.reduceNe]
    refine ⟨renL_F (by simp -dsimp -implicitDefEqProofs (maxSteps := 1000000) only [go_sem, ↓reduceIte, Nat.reduceAdd, Nat.reduceSub, Nat.reduceMul, Nat.reduceLT, Nat.reduceLeDiff, Nat.reduceEqDiff, Nat.reduceBEq, Nat.reduceBNe, Int.reduceToNat, Int.reduceLT, Int.reduceLE, Int.reduceNeg, reduceCtorEq, Int.reduceEq, Int.reduceNe]), renL_cl2 (by rw [fillP_0, pxC, List.map_replicate]) (clPx _), renL_F (by simp -dsimp -implicitDefEqProofs (maxSteps := 1000000) only [go_sem, ↓reduceIte, Nat.reduceAdd, Nat.reduceSub, Nat.reduceMul, Nat.reduceLT, Nat.reduceLeDiff, Nat.reduceEqDiff, Nat.reduceBEq, Nat.reduceBNe, Int.reduceToNat, Int.reduceLT, Int.reduceLE, Int.reduceNeg, reduceCtorEq, Int.reduceEq, Int.reduceNe])⟩
  obtain ⟨i, hi⟩ := i
  simp -dsimp -implicitDefEqProofs (maxSteps := 1000000) only [go_sem, ↓reduceIte, Nat.reduceAdd, Nat.reduceSub, Nat.reduceMul, Nat.reduceLT, Nat.reduceLeDiff, Nat.reduceEqDiff, Nat.reduceBEq, Nat.reduceBNe, Int.reduceToNat, Int.reduceLT, Int.reduceLE, Int.reduceNeg, reduceCtorEq, Int.reduceEq, Int.reduceNe, Int.natCast_nonneg]
  refine ⟨fun h' => ?_, fun hout => ?_⟩
  · have hlt : i < N := by omega
    have e3 : wr ((i : Int) + 1) = ((i + 1 : Nat) : Int) := by rw [wr_in] <;> omega
    have ew : ¬ (w : Int) = 0 := by omega
    obtain ⟨m1, m2⟩ := mod_lt2 (show i < w * h by omega)
    have e4 : wr ((i / w : Nat) : Int) = ((i / w : Nat) : Int) := wrN (by omega)
    refine AtCode.draw 12 [([], []), ([0], []), ([], []), ([], []), ([], []), ([], []), ([4, 5], []), ([], []), ([], []), ([7, 8], []), ([3, 4, 5, 6, 7, 8, 9], []), ([0, 1, 2, 3, 4, 5, 6, 7, 8, 9, 10], []), ([0, 1, 2, 3, 4, 5, 6, 7, 8, 9, 10, 11], [])] (by kernel_rfl) ?_
    simp -dsimp -implicitDefEqProofs (maxSteps := 1000000) only [go_sem, ↓reduceIte, Nat.reduceAdd, Nat.reduceSub, Nat.reduceMul, Nat.reduceLT, Nat.reduceLeDiff, Nat.reduceEqDiff, Nat.reduceBEq, Nat.reduceBNe, Int.reduceToNat, Int.reduceLT, Int.reduceLE, Int.reduceNeg, reduceCtorEq, Int.reduceEq, Int.reduceNe, tmodN, tdivN, ew, e4]
    refine QFn.use _ (hf (i % w) (i / w) m1 m2) ?_ ?_
    · intro a ha
      simp only [List.mem_cons] at ha
      rcases ha with rfl | rfl | ha
      · exact .v _
      · exact .v _
      · exact hcl a ha
    simp -dsimp -implicitDefEqProofs (maxSteps := 1000000) only [go_sem, ↓reduceIte, Nat.reduceAdd, Nat.reduceSub, Nat.reduceMul, Nat.reduceLT, Nat.reduceLeDiff, Nat.reduceEqDiff, Nat.reduceBEq, Nat.reduceBNe, Int.reduceToNat, Int.reduceLT, Int.reduceLE, Int.reduceNeg, reduceCtorEq, Int.reduceEq, Int.reduceNe, Int.natCast_nonneg, Int.toNat_natCast, pxC_len, fillP_len, pxC_get, Nat.zero_add, fillP_get _ hlt, e3]
    refine ⟨h', ⟨i + 1, by omega⟩, by show N - (i + 1) < N - i; omega, Le.tl (Ls := []) (y := none) [] ?_ ?_ (by simp) (by simp [sg]) trivial⟩
    · simp -dsimp -implicitDefEqProofs (maxSteps := 1000000) only [go_sem, ↓reduceIte, Nat.reduceAdd, Nat.reduceSub, Nat.reduceMul, Nat.reduceLT, Nat.reduceLeDiff, Nat.reduceEqDiff, Nat.reduceBEq, Nat.reduceBNe, Int.reduceToNat, Int.reduceLT, Int.reduceLE, Int.reduceNeg, reduceCtorEq, Int.reduceEq, Int.reduceNe]
      exact .cl hclF
    · simp -dsimp -implicitDefEqProofs (maxSteps := 1000000) only [go_sem, ↓reduceIte, Nat.reduceAdd, Nat.reduceSub, Nat.reduceMul, Nat.reduceLT, Nat.reduceLeDiff, Nat.reduceEqDiff, Nat.reduceBEq, Nat.reduceBNe, Int.reduceToNat, Int.reduceLT, Int.reduceLE, Int.reduceNeg, reduceCtorEq, Int.reduceEq, Int.reduceNe]
      refine ⟨renL_F (by simp -dsimp -implicitDefEqProofs (maxSteps := 1000000) only [go_sem, ↓reduceIte, Nat.reduceAdd, Nat.reduceSub, Nat.reduceMul, Nat.reduceLT, Nat.reduceLeDiff, Nat.reduceEqDiff, Nat.reduceBEq, Nat.reduceBNe, Int.reduceToNat, Int.reduceLT, Int.reduceLE, Int.reduceNeg, reduceCtorEq, Int.reduceEq, Int.reduceNe]), renL_cl2 (fillP_set _ _ _ _ rfl) (clPx _), renL_F (by simp -dsimp -implicitDefEqProofs (maxSteps := 1000000) only [go_sem, ↓reduceIte, Nat.reduceAdd, Nat.reduceSub, Nat.reduceMul, Nat.reduceLT, Nat.reduceLeDiff, Nat.reduceEqDiff, Nat.reduceBEq, Nat.reduceBNe, Int.reduceToNat, Int.reduceLT, Int.reduceLE, Int.reduceNeg, reduceCtorEq, Int.reduceEq, Int.reduceNe])⟩
  · obtain rfl : i = N := by omega
    rw [if_pos (by rw [pxC_len, fillP_len]; omega), takePx _ _ (fillP_len _ _ _)]
end

section
set_option maxRecDepth 20000
attribute [local go_sem] clPxT
def px (p : List Int) (w i j : Nat) : Int := p.getD (j * w + i) 0
theorem vaR_of {r : Ra} (h : vaB r = true) : ∃ (w h : Nat) (p : List Int), r = ⟨w, h, p⟩ ∧ 1 ≤ w ∧ w ≤ 256 ∧ 1 ≤ h ∧ h ≤ 256 ∧ p.length = w * h := by
  obtain ⟨w, h', p⟩ := r
  simp only [vaB, sideB, Bool.and_eq_true, decide_eq_true_eq] at h
  obtain ⟨⟨⟨h1, h2⟩, h3, h4⟩, h5⟩ := h
  obtain ⟨w, rfl⟩ := Int.eq_ofNat_of_zero_le (show 0 ≤ w by omega)
  obtain ⟨h', rfl⟩ := Int.eq_ofNat_of_zero_le (show 0 ≤ h' by omega)
  have := prodN (w := w) (h := h') (by omega) (by omega)
  refine ⟨w, h', p, rfl, by omega, by omega, by omega, by omega, ?_⟩
  rw [← Int.natCast_mul, wrN (by omega)] at h5
  omega
theorem wrS {a b : Nat} (h : b ≤ a) (ha : a ≤ 4611686018427387904) : wr ((a : Int) - (b : Int)) = ((a - b : Nat) : Int) := by rw [wr_in] <;> omega
theorem wrS1 {a : Nat} (h : 1 ≤ a) (ha : a ≤ 4611686018427387904) : wr ((a : Int) - 1) = ((a - 1 : Nat) : Int) := by rw [wr_in] <;> omega
theorem wrA {a b : Nat} (h : a + b ≤ 4611686018427387904) : wr ((a : Int) + (b : Int)) = ((a + b : Nat) : Int) := by rw [wr_in] <;> omega
theorem wrA1 {a : Nat} (h : a ≤ 4611686018427387904) : wr ((a : Int) + 1) = ((a + 1 : Nat) : Int) := by rw [wr_in] <;> omega
theorem wrM {a b : Nat} (h : a * b ≤ 4611686018427387904) : wr ((a : Int) * (b : Int)) = ((a * b : Nat) : Int) := by rw [← Int.natCast_mul, wrN h]
theorem idx_lt {i j w h : Nat} (hi : i < w) (hj : j < h) : j * w + i < w * h := by
  have : (j + 1) * w ≤ h * w := Nat.mul_le_mul_right _ hj
  rw [Nat.succ_mul, Nat.mul_comm h w] at this
  omega
theorem getD_some {p : List Int} {k : Nat} (h : k < p.length) : p[k]? = some (p.getD k 0) := by
  rw [List.getD, List.getElem?_eq_getElem h]; rfl
theorem new75 (i j n : Int) : PFun Tryd.prog 75 [I i, I j, .rp [I n] 0] (U (IntKind.u8.wrap n)) := by
  refine PFun.intro 400 mixed Tryd.func75 (by kernel_rfl) rfl (by first | exact .v _ | (simp [Cl_v, Cl_t, Cl_g, Cl_fn, Cl_rp, Cl_ro]; done) | (simp [Cl_v, Cl_t, Cl_g, Cl_fn, Cl_rp, Cl_ro, or_imp, forall_and]; done) | (split <;> simp [Cl_v, Cl_t, Cl_g, Cl_fn, Cl_rp, Cl_ro])) (Nat.le_of_ble_eq_true rfl) ?_; rw [Tryd.ntmps75, Tryd.results75]
  simp -dsimp -implicitDefEqProofs (maxSteps := 1000000) only [go_sem, ↓reduceIte, Nat.reduceAdd, Nat.reduceSub, Nat.reduceMul, Nat.reduceLT, Nat.reduceLeDiff, Nat.reduceEqDiff, Nat.reduceBEq, Nat.reduceBNe, Int.reduceToNat, Int.reduceLT, Int.reduceLE, Int.reduceNeg, reduceCtorEq, Int.reduceEq, Int.reduceNe]
theorem turn80 (w h : Nat) (p : List Int) (hw2 : w ≤ 256) (hh2 : h ≤ 256) (hlen : p.length = w * h) (i j : Nat) (hi : i < h) (hj : j < w) :
    PFun Tryd.prog 80 [I i, I j, .rp [I w, I h, .ro 1 (pxC p)] 0] (U (px p w j (h - 1 - i))) := by
  have hw0 := prodN hw2 hh2
  have hil := idx_lt (i := j) (j := h - 1 - i) (w := w) (h := h) hj (by omega)
  have hget := getD_some (p := p) (hlen ▸ hil)
  have hli : (((h - 1 - i) * w + j : Nat) : Int) < (p.length : Int) := by omega
  have e1 := wrS1 (a := h) (by omega) (by omega)
  have e2 := wrS (a := h - 1) (b := i) (by omega) (by omega)
  have e3 := wrM (a := h - 1 - i) (b := w) (by omega)
  have e4 := wrA (a := (h - 1 - i) * w) (b := j) (by omega)
  refine PFun.intro 400 mixed Tryd.func80 (by kernel_rfl) rfl (by first | exact .v _ | (simp [Cl_v, Cl_t, Cl_g, Cl_fn, Cl_rp, Cl_ro]; done) | (simp [Cl_v, Cl_t, Cl_g, Cl_fn, Cl_rp, Cl_ro, or_imp, forall_and]; done) | (split <;> simp [Cl_v, Cl_t, Cl_g, Cl_fn, Cl_rp, Cl_ro])) (Nat.le_of_ble_eq_true rfl) ?_; rw [Tryd.ntmps80, Tryd.results80]
  simp -dsimp -implicitDefEqProofs (maxSteps := 1000000) only [go_sem, ↓reduceIte, Nat.reduceAdd, Nat.reduceSub, Nat.reduceMul, Nat.reduceLT, Nat.reduceLeDiff, Nat.reduceEqDiff, Nat.reduceBEq, Nat.reduceBNe, Int.reduceToNat, Int.reduceLT, Int.reduceLE, Int.reduceNeg, reduceCtorEq, Int.reduceEq, Int.reduceNe, e1, e2, e3, e4, pxC_len, pxC_get, Int.natCast_nonneg, Int.toNat_natCast, Nat.zero_add, hget]
  rfl
theorem mirror81 (w h : Nat) (p : List Int) (hw2 : w ≤ 256) (hh2 : h ≤ 256) (hlen : p.length = w * h) (i j : Nat) (hi : i < w) (hj : j < h) :
    PFun Tryd.prog 81 [I i, I j, .rp [I w, I h, .ro 1 (pxC p)] 0] (U (px p w (w - 1 - i) j)) := by
  have hw0 := prodN hw2 hh2
  have hil := idx_lt (i := w - 1 - i) (j := j) (w := w) (h := h) (by omega) hj
  have hget := getD_some (p := p) (hlen ▸ hil)
  have hli : ((j * w + (w - 1 - i) : Nat) : Int) < (p.length : Int) := by omega
  have e1 := wrM (a := j) (b := w) (by omega)
  have e2 := wrA (a := j * w) (b := w) (by omega)
  have e3 := wrS1 (a := j * w + w) (by omega) (by omega)
  have e4 := wrS (a := j * w + w - 1) (b := i) (by omega) (by omega)
  have e5 : j * w + w - 1 - i = j * w + (w - 1 - i) := by omega
  refine PFun.intro 400 mixed Tryd.func81 (by kernel_rfl) rfl (by first | exact .v _ | (simp [Cl_v, Cl_t, Cl_g, Cl_fn, Cl_rp, Cl_ro]; done) | (simp [Cl_v, Cl_t, Cl_g, Cl_fn, Cl_rp, Cl_ro, or_imp, forall_and]; done) | (split <;> simp [Cl_v, Cl_t, Cl_g, Cl_fn, Cl_rp, Cl_ro])) (Nat.le_of_ble_eq_true rfl) ?_; rw [Tryd.ntmps81, Tryd.results81]
  simp -dsimp -implicitDefEqProofs (maxSteps := 1000000) only [go_sem, ↓reduceIte, Nat.reduceAdd, Nat.reduceSub, Nat.reduceMul, Nat.reduceLT, Nat.reduceLeDiff, Nat.reduceEqDiff, Nat.reduceBEq, Nat.reduceBNe, Int.reduceToNat, Int.reduceLT, Int.reduceLE, Int.reduceNeg, reduceCtorEq, Int.reduceEq, Int.reduceNe, e1, e2, e3, e4, e5, pxC_len, pxC_get, Int.natCast_nonneg, Int.toNat_natCast, Nat.zero_add, hget]
  rfl
theorem invert82 (w h : Nat) (p : List Int) (hw2 : w ≤ 256) (hh2 : h ≤ 256) (hlen : p.length = w * h) (i j : Nat) (hi : i < w) (hj : j < h) :
    PFun Tryd.prog 82 [I i, I j, .rp [I w, I h, .ro 1 (pxC p)] 0] (U (IntKind.u8.wrap (255 - px p w i j))) := by
  have hw0 := prodN hw2 hh2
  have hil := idx_lt (i := i) (j := j) (w := w) (h := h) hi hj
  have hget := getD_some (p := p) (hlen ▸ hil)
  have hli : ((j * w + i : Nat) : Int) < (p.length : Int) := by omega
  have e1 := wrM (a := j) (b := w) (by omega)
  have e2 := wrA (a := j * w) (b := i) (by omega)
  refine PFun.intro 400 mixed Tryd.func82 (by kernel_rfl) rfl (by first | exact .v _ | (simp [Cl_v, Cl_t, Cl_g, Cl_fn, Cl_rp, Cl_ro]; done) | (simp [Cl_v, Cl_t, Cl_g, Cl_fn, Cl_rp, Cl_ro, or_imp, forall_and]; done) | (split <;> simp [Cl_v, Cl_t, Cl_g, Cl_fn, Cl_rp, Cl_ro])) (Nat.le_of_ble_eq_true rfl) ?_; rw [Tryd.ntmps82, Tryd.results82]
  simp -dsimp -implicitDefEqProofs (maxSteps := 1000000) only [go_sem, ↓reduceIte, Nat.reduceAdd, Nat.reduceSub, Nat.reduceMul, Nat.reduceLT, Nat.reduceLeDiff, Nat.reduceEqDiff, Nat.reduceBEq, Nat.reduceBNe, Int.reduceToNat, Int.reduceLT, Int.reduceLE, Int.reduceNeg, reduceCtorEq, Int.reduceEq, Int.reduceNe, e1, e2, pxC_len, pxC_get, Int.natCast_nonneg, Int.toNat_natCast, Nat.zero_add, hget]
  rfl
theorem crop83 (w h : Nat) (p : List Int) (hw2 : w ≤ 256) (hh2 : h ≤ 256) (hlen : p.length = w * h) (x y i j : Nat) (hi : x + i < w) (hj : y + j < h) :
    PFun Tryd.prog 83 [I i, I j, .rp [I w, I h, .ro 1 (pxC p)] 0, .rp [I y] 0, .rp [I x] 0] (U (px p w (x + i) (y + j))) := by
  have hw0 := prodN hw2 hh2
  have hil := idx_lt (i := x + i) (j := y + j) (w := w) (h := h) hi hj
  have hget := getD_some (p := p) (hlen ▸ hil)
  have hli : (((y + j) * w + (x + i) : Nat) : Int) < (p.length : Int) := by omega
  have e0 := wrA (a := y) (b := j) (by omega)
  have e1 := wrM (a := y + j) (b := w) (by omega)
  have e2 := wrA (a := (y + j) * w) (b := x) (by omega)
  have e3 := wrA (a := (y + j) * w + x) (b := i) (by omega)
  have e4 := Nat.add_assoc ((y + j) * w) x i
  refine PFun.intro 400 mixed Tryd.func83 (by kernel_rfl) rfl (by first | exact .v _ | (simp [Cl_v, Cl_t, Cl_g, Cl_fn, Cl_rp, Cl_ro]; done) | (simp [Cl_v, Cl_t, Cl_g, Cl_fn, Cl_rp, Cl_ro, or_imp, forall_and]; done) | (split <;> simp [Cl_v, Cl_t, Cl_g, Cl_fn, Cl_rp, Cl_ro])) (Nat.le_of_ble_eq_true rfl) ?_; rw [Tryd.ntmps83, Tryd.results83]
  simp -dsimp -implicitDefEqProofs (maxSteps := 1000000) only [go_sem, ↓reduceIte, Nat.reduceAdd, Nat.reduceSub, Nat.reduceMul, Nat.reduceLT, Nat.reduceLeDiff, Nat.reduceEqDiff, Nat.reduceBEq, Nat.reduceBNe, Int.reduceToNat, Int.reduceLT, Int.reduceLE, Int.reduceNeg, reduceCtorEq, Int.reduceEq, Int.reduceNe, e0, e1, e2, e3, e4, pxC_len, pxC_get, Int.natCast_nonneg, Int.toNat_natCast, Nat.zero_add, hget]
  rfl
abbrev RE (x : Ra × Int) : AV := .t [RaA x.1, I x.2]
abbrev raZ : Ra := ⟨0, 0, []⟩
theorem clRE (x : Ra × Int) : Cl (RE x) := by simp [Cl_t, Cl_g, Cl_v, Cl_ro, clPxT]
theorem subO (e : Int) : Sub (.t [raO, I e]) (RE (raZ, e)) := Sub.t2 (Sub.g (.cons (.refl _) (.cons (.refl _) (.cons (Sub.nil 1) .nil)))) _
theorem pT {P : Program} {f : FuncId} {al : List AV} {c : Bool} {x y : Ra × Int} (hc : c = true) (h : PFun P f al (RE x)) : PFun P f al (RE (if c then x else y)) := by rw [if_pos hc]; exact h
theorem pE {P : Program} {f : FuncId} {al : List AV} {c : Bool} {x : Ra × Int} {e : Int} (hc : c = false) (h : PFun P f al (.t [raO, I e])) : PFun P f al (RE (if c then x else (raZ, e))) := by
  rw [if_neg (by rw [hc]; exact Bool.false_ne_true)]; exact h.res (subO e)
def newP (w h n : Int) : Ra × Int := if sideB w && sideB h && inkB n then (mkR w.toNat h.toNat fun _ _ => n, 0) else (raZ, 2)
theorem u8_ink {n : Int} (h : inkB n = true) : IntKind.u8.wrap n = n := by
  simp only [inkB, Bool.and_eq_true, decide_eq_true_eq] at h
  have e1 : (2 : Int) ^ IntKind.u8.bits = 256 := by decide
  simp only [IntKind.wrap, e1, IntKind.signed, Bool.false_and]
  simp
  omega
theorem side_of {n : Int} (h : sideB n = true) : ∃ k : Nat, n = k ∧ 1 ≤ k ∧ k ≤ 256 := by
  simp only [sideB, Bool.and_eq_true, decide_eq_true_eq] at h
  obtain ⟨k, rfl⟩ := Int.eq_ofNat_of_zero_le (show 0 ≤ n by omega)
  exact ⟨k, rfl, by omega, by omega⟩
theorem new33 (w h n : Int) : PFun Tryd.prog 33 [I w, I h, I n] (RE (newP w h n)) := by
  unfold newP
  by_cases hc : (sideB w && sideB h && inkB n) = true
  · refine pT hc ?_
    simp only [Bool.and_eq_true] at hc
    obtain ⟨⟨hw, hh⟩, hn⟩ := hc
    obtain ⟨W, rfl, w1, w2⟩ := side_of hw
    obtain ⟨H, rfl, h1, h2⟩ := side_of hh
    have hm := made69 W H w1 w2 h1 h2 75 [.rp [I n] 0] (by simp [Cl_rp, Cl_v]) (fun _ _ => n) (fun i j _ _ => by have := new75 i j n; rw [u8_ink hn] at this; exact this)
    refine PFun.intro 400 mixed Tryd.func33 (by kernel_rfl) rfl (clRE _) (Nat.le_of_ble_eq_true rfl) ?_; rw [Tryd.ntmps33, Tryd.results33]
    simp -dsimp -implicitDefEqProofs (maxSteps := 1000000) only [go_sem, ↓reduceIte, Nat.reduceAdd, Nat.reduceSub, Nat.reduceMul, Nat.reduceLT, Nat.reduceLeDiff, Nat.reduceEqDiff, Nat.reduceBEq, Nat.reduceBNe, Int.reduceToNat, Int.reduceLT, Int.reduceLE, Int.reduceNeg, reduceCtorEq, Int.reduceEq, Int.reduceNe]
    refine AtFn.pure0 (side74 _) ?_
    simp -dsimp -implicitDefEqProofs (maxSteps := 1000000) only [go_sem, ↓reduceIte, Nat.reduceAdd, Nat.reduceSub, Nat.reduceMul, Nat.reduceLT, Nat.reduceLeDiff, Nat.reduceEqDiff, Nat.reduceBEq, Nat.reduceBNe, Int.reduceToNat, Int.reduceLT, Int.reduceLE, Int.reduceNeg, reduceCtorEq, Int.reduceEq, Int.reduceNe, hw]
    refine AtFn.pure0 (side74 _) ?_
    simp -dsimp -implicitDefEqProofs (maxSteps := 1000000) only [go_sem, ↓reduceIte, Nat.reduceAdd, Nat.reduceSub, Nat.reduceMul, Nat.reduceLT, Nat.reduceLeDiff, Nat.reduceEqDiff, Nat.reduceBEq, Nat.reduceBNe, Int.reduceToNat, Int.reduceLT, Int.reduceLE, Int.reduceNeg, reduceCtorEq, Int.reduceEq, Int.reduceNe, hh]
    refine AtFn.pure0 (ink67 _) ?_
    simp -dsimp -implicitDefEqProofs (maxSteps := 1000000) only [go_sem, ↓reduceIte, Nat.reduceAdd, Nat.reduceSub, Nat.reduceMul, Nat.reduceLT, Nat.reduceLeDiff, Nat.reduceEqDiff, Nat.reduceBEq, Nat.reduceBNe, Int.reduceToNat, Int.reduceLT, Int.reduceLE, Int.reduceNeg, reduceCtorEq, Int.reduceEq, Int.reduceNe, hn]
    refine AtFn.pure hm ?_
    simp -dsimp -implicitDefEqProofs (maxSteps := 1000000) only [go_sem, ↓reduceIte, Nat.reduceAdd, Nat.reduceSub, Nat.reduceMul, Nat.reduceLT, Nat.reduceLeDiff, Nat.reduceEqDiff, Nat.reduceBEq, Nat.reduceBNe, Int.reduceToNat, Int.reduceLT, Int.reduceLE, Int.reduceNeg, reduceCtorEq, Int.reduceEq, Int.reduceNe]
    rfl
  · have hc : (sideB w && sideB h && inkB n) = false := by simpa using hc
    refine pE hc ?_
    refine PFun.intro 400 mixed Tryd.func33 (by kernel_rfl) rfl (by first | exact .v _ | (simp [Cl_v, Cl_t, Cl_g, Cl_fn, Cl_rp, Cl_ro]; done) | (simp [Cl_v, Cl_t, Cl_g, Cl_fn, Cl_rp, Cl_ro, or_imp, forall_and]; done) | (split <;> simp [Cl_v, Cl_t, Cl_g, Cl_fn, Cl_rp, Cl_ro])) (Nat.le_of_ble_eq_true rfl) ?_; rw [Tryd.ntmps33, Tryd.results33]
    simp -dsimp -implicitDefEqProofs (maxSteps := 1000000) only [go_sem, ↓reduceIte, Nat.reduceAdd, Nat.reduceSub, Nat.reduceMul, Nat.reduceLT, Nat.reduceLeDiff, Nat.reduceEqDiff, Nat.reduceBEq, Nat.reduceBNe, Int.reduceToNat, Int.reduceLT, Int.reduceLE, Int.reduceNeg, reduceCtorEq, Int.reduceEq, Int.reduceNe]
    repeat' (first | (apply And.intro <;> (try intro _) <;> try simp -dsimp -implicitDefEqProofs (maxSteps := 1000000) only [go_sem, ↓reduceIte, Nat.reduceAdd, Nat.reduceSub, Nat.reduceMul, Nat.reduceLT, Nat.reduceLeDiff, Nat.reduceEqDiff, Nat.reduceBEq, Nat.reduceBNe, Int.reduceToNat, Int.reduceLT, Int.reduceLE, Int.reduceNeg, reduceCtorEq, Int.reduceEq, Int.reduceNe]) | (refine AtFn.pure0 (side74 _) ?_; try simp -dsimp -implicitDefEqProofs (maxSteps := 1000000) only [go_sem, ↓reduceIte, Nat.reduceAdd, Nat.reduceSub, Nat.reduceMul, Nat.reduceLT, Nat.reduceLeDiff, Nat.reduceEqDiff, Nat.reduceBEq, Nat.reduceBNe, Int.reduceToNat, Int.reduceLT, Int.reduceLE, Int.reduceNeg, reduceCtorEq, Int.reduceEq, Int.reduceNe]) | (refine AtFn.pure0 (ink67 _) ?_; try simp -dsimp -implicitDefEqProofs (maxSteps := 1000000) only [go_sem, ↓reduceIte, Nat.reduceAdd, Nat.reduceSub, Nat.reduceMul, Nat.reduceLT, Nat.reduceLeDiff, Nat.reduceEqDiff, Nat.reduceBEq, Nat.reduceBNe, Int.reduceToNat, Int.reduceLT, Int.reduceLE, Int.reduceNeg, reduceCtorEq, Int.reduceEq, Int.reduceNe]) | (refine AtFn.pure0 (none53 2) ?_; try simp -dsimp -implicitDefEqProofs (maxSteps := 1000000) only [go_sem, ↓reduceIte, Nat.reduceAdd, Nat.reduceSub, Nat.reduceMul, Nat.reduceLT, Nat.reduceLeDiff, Nat.reduceEqDiff, Nat.reduceBEq, Nat.reduceBNe, Int.reduceToNat, Int.reduceLT, Int.reduceLE, Int.reduceNeg, reduceCtorEq, Int.reduceEq, Int.reduceNe]))
    all_goals (exfalso; simp_all)
def turnP (r : Ra) : Ra × Int := if vaB r then (mkR r.h.toNat r.w.toNat fun i j => px r.p r.w.toNat j (r.h.toNat - 1 - i), 0) else (raZ, 2)
def mirrorP (r : Ra) : Ra × Int := if vaB r then (mkR r.w.toNat r.h.toNat fun i j => px r.p r.w.toNat (r.w.toNat - 1 - i) j, 0) else (raZ, 2)
def invertP (r : Ra) : Ra × Int := if vaB r then (mkR r.w.toNat r.h.toNat fun i j => IntKind.u8.wrap (255 - px r.p r.w.toNat i j), 0) else (raZ, 2)
theorem turn42 (r : Ra) : PFun Tryd.prog 42 [RaA r] (RE (turnP r)) := by
  have hv := valid62 r
  unfold turnP
  by_cases hc : vaB r = true
  · refine pT hc ?_
    obtain ⟨w, h, p, rfl, w1, w2, h1, h2, hlen⟩ := vaR_of hc
    have hm := made69 h w h1 h2 w1 w2 80 [.rp [I (w : Int), I (h : Int), .ro 1 (pxC p)] 0] (by simp [Cl_rp, Cl_v, Cl_ro, clPxT]) _ (fun i j hi hj => turn80 w h p w2 h2 hlen i j hi hj)
    refine PFun.intro 400 mixed Tryd.func42 (by kernel_rfl) rfl (clRE _) (Nat.le_of_ble_eq_true rfl) ?_; rw [Tryd.ntmps42, Tryd.results42]
    simp -dsimp -implicitDefEqProofs (maxSteps := 1000000) only [go_sem, ↓reduceIte, Nat.reduceAdd, Nat.reduceSub, Nat.reduceMul, Nat.reduceLT, Nat.reduceLeDiff, Nat.reduceEqDiff, Nat.reduceBEq, Nat.reduceBNe, Int.reduceToNat, Int.reduceLT, Int.reduceLE, Int.reduceNeg, reduceCtorEq, Int.reduceEq, Int.reduceNe]
    refine AtFn.pure0 hv ?_
    simp -dsimp -implicitDefEqProofs (maxSteps := 1000000) only [go_sem, ↓reduceIte, Nat.reduceAdd, Nat.reduceSub, Nat.reduceMul, Nat.reduceLT, Nat.reduceLeDiff, Nat.reduceEqDiff, Nat.reduceBEq, Nat.reduceBNe, Int.reduceToNat, Int.reduceLT, Int.reduceLE, Int.reduceNeg, reduceCtorEq, Int.reduceEq, Int.reduceNe, hc]
    refine AtFn.pure hm ?_
    simp -dsimp -implicitDefEqProofs (maxSteps := 1000000) only [go_sem, ↓reduceIte, Nat.reduceAdd, Nat.reduceSub, Nat.reduceMul, Nat.reduceLT, Nat.reduceLeDiff, Nat.reduceEqDiff, Nat.reduceBEq, Nat.reduceBNe, Int.reduceToNat, Int.reduceLT, Int.reduceLE, Int.reduceNeg, reduceCtorEq, Int.reduceEq, Int.reduceNe, clPxT]
    rfl
  · have hc : vaB r = false := by simpa using hc
    refine pE hc ?_
    obtain ⟨w, h, p⟩ := r
    refine PFun.intro 400 mixed Tryd.func42 (by kernel_rfl) rfl (by first | exact .v _ | (simp [Cl_v, Cl_t, Cl_g, Cl_fn, Cl_rp, Cl_ro]; done) | (simp [Cl_v, Cl_t, Cl_g, Cl_fn, Cl_rp, Cl_ro, or_imp, forall_and]; done) | (split <;> simp [Cl_v, Cl_t, Cl_g, Cl_fn, Cl_rp, Cl_ro])) (Nat.le_of_ble_eq_true rfl) ?_; rw [Tryd.ntmps42, Tryd.results42]
    simp -dsimp -implicitDefEqProofs (maxSteps := 1000000) only [go_sem, ↓reduceIte, Nat.reduceAdd, Nat.reduceSub, Nat.reduceMul, Nat.reduceLT, Nat.reduceLeDiff, Nat.reduceEqDiff, Nat.reduceBEq, Nat.reduceBNe, Int.reduceToNat, Int.reduceLT, Int.reduceLE, Int.reduceNeg, reduceCtorEq, Int.reduceEq, Int.reduceNe]
    refine AtFn.pure0 hv ?_
    simp -dsimp -implicitDefEqProofs (maxSteps := 1000000) only [go_sem, ↓reduceIte, Nat.reduceAdd, Nat.reduceSub, Nat.reduceMul, Nat.reduceLT, Nat.reduceLeDiff, Nat.reduceEqDiff, Nat.reduceBEq, Nat.reduceBNe, Int.reduceToNat, Int.reduceLT, Int.reduceLE, Int.reduceNeg, reduceCtorEq, Int.reduceEq, Int.reduceNe, hc]
    refine AtFn.pure0 (none53 2) ?_
    simp -dsimp -implicitDefEqProofs (maxSteps := 1000000) only [go_sem, ↓reduceIte, Nat.reduceAdd, Nat.reduceSub, Nat.reduceMul, Nat.reduceLT, Nat.reduceLeDiff, Nat.reduceEqDiff, Nat.reduceBEq, Nat.reduceBNe, Int.reduceToNat, Int.reduceLT, Int.reduceLE, Int.reduceNeg, reduceCtorEq, Int.reduceEq, Int.reduceNe]
theorem mirror43 (r : Ra) : PFun Tryd.prog 43 [RaA r] (RE (mirrorP r)) := by
  have hv := valid62 r
  unfold mirrorP
  by_cases hc : vaB r = true
  · refine pT hc ?_
    obtain ⟨w, h, p, rfl, w1, w2, h1, h2, hlen⟩ := vaR_of hc
    have hm := made69 w h w1 w2 h1 h2 81 [.rp [I (w : Int), I (h : Int), .ro 1 (pxC p)] 0] (by simp [Cl_rp, Cl_v, Cl_ro, clPxT]) _ (fun i j hi hj => mirror81 w h p w2 h2 hlen i j hi hj)
    refine PFun.intro 400 mixed Tryd.func43 (by kernel_rfl) rfl (clRE _) (Nat.le_of_ble_eq_true rfl) ?_; rw [Tryd.ntmps43, Tryd.results43]
    simp -dsimp -implicitDefEqProofs (maxSteps := 1000000) only [go_sem, ↓reduceIte, Nat.reduceAdd, Nat.reduceSub, Nat.reduceMul, Nat.reduceLT, Nat.reduceLeDiff, Nat.reduceEqDiff, Nat.reduceBEq, Nat.reduceBNe, Int.reduceToNat, Int.reduceLT, Int.reduceLE, Int.reduceNeg, reduceCtorEq, Int.reduceEq, Int.reduceNe]
    refine AtFn.pure0 hv ?_
    simp -dsimp -implicitDefEqProofs (maxSteps := 1000000) only [go_sem, ↓reduceIte, Nat.reduceAdd, Nat.reduceSub, Nat.reduceMul, Nat.reduceLT, Nat.reduceLeDiff, Nat.reduceEqDiff, Nat.reduceBEq, Nat.reduceBNe, Int.reduceToNat, Int.reduceLT, Int.reduceLE, Int.reduceNeg, reduceCtorEq, Int.reduceEq, Int.reduceNe, hc]
    refine AtFn.pure hm ?_
    simp -dsimp -implicitDefEqProofs (maxSteps := 1000000) only [go_sem, ↓reduceIte, Nat.reduceAdd, Nat.reduceSub, Nat.reduceMul, Nat.reduceLT, Nat.reduceLeDiff, Nat.reduceEqDiff, Nat.reduceBEq, Nat.reduceBNe, Int.reduceToNat, Int.reduceLT, Int.reduceLE, Int.reduceNeg, reduceCtorEq, Int.reduceEq, Int.reduceNe, clPxT]
    rfl
  · have hc : vaB r = false := by simpa using hc
    refine pE hc ?_
    obtain ⟨w, h, p⟩ := r
    refine PFun.intro 400 mixed Tryd.func43 (by kernel_rfl) rfl (by first | exact .v _ | (simp [Cl_v, Cl_t, Cl_g, Cl_fn, Cl_rp, Cl_ro]; done) | (simp [Cl_v, Cl_t, Cl_g, Cl_fn, Cl_rp, Cl_ro, or_imp, forall_and]; done) | (split <;> simp [Cl_v, Cl_t, Cl_g, Cl_fn, Cl_rp, Cl_ro])) (Nat.le_of_ble_eq_true rfl) ?_; rw [Tryd.ntmps43, Tryd.results43]
    simp -dsimp -implicitDefEqProofs (maxSteps := 1000000) only [go_sem, ↓reduceIte, Nat.reduceAdd, Nat.reduceSub, Nat.reduceMul, Nat.reduceLT, Nat.reduceLeDiff, Nat.reduceEqDiff, Nat.reduceBEq, Nat.reduceBNe, Int.reduceToNat, Int.reduceLT, Int.reduceLE, Int.reduceNeg, reduceCtorEq, Int.reduceEq, Int.reduceNe]
    refine AtFn.pure0 hv ?_
    simp -dsimp -implicitDefEqProofs (maxSteps := 1000000) only [go_sem, ↓reduceIte, Nat.reduceAdd, Nat.reduceSub, Nat.reduceMul, Nat.reduceLT, Nat.reduceLeDiff, Nat.reduceEqDiff, Nat.reduceBEq, Nat.reduceBNe, Int.reduceToNat, Int.reduceLT, Int.reduceLE, Int.reduceNeg, reduceCtorEq, Int.reduceEq, Int.reduceNe, hc]
    refine AtFn.pure0 (none53 2) ?_
    simp -dsimp -implicitDefEqProofs (maxSteps := 1000000) only [go_sem, ↓reduceIte, Nat.reduceAdd, Nat.reduceSub, Nat.reduceMul, Nat.reduceLT, Nat.reduceLeDiff, Nat.reduceEqDiff, Nat.reduceBEq, Nat.reduceBNe, Int.reduceToNat, Int.reduceLT, Int.reduceLE, Int.reduceNeg, reduceCtorEq, Int.reduceEq, Int.reduceNe]
theorem invert44 (r : Ra) : PFun Tryd.prog 44 [RaA r] (RE (invertP r)) := by
  have hv := valid62 r
  unfold invertP
  by_cases hc : vaB r = true
  · refine pT hc ?_
    obtain ⟨w, h, p, rfl, w1, w2, h1, h2, hlen⟩ := vaR_of hc
    have hm := made69 w h w1 w2 h1 h2 82 [.rp [I (w : Int), I (h : Int), .ro 1 (pxC p)] 0] (by simp [Cl_rp, Cl_v, Cl_ro, clPxT]) _ (fun i j hi hj => invert82 w h p w2 h2 hlen i j hi hj)
    refine PFun.intro 400 mixed Tryd.func44 (by kernel_rfl) rfl (clRE _) (Nat.le_of_ble_eq_true rfl) ?_; rw [Tryd.ntmps44, Tryd.results44]
    simp -dsimp -implicitDefEqProofs (maxSteps := 1000000) only [go_sem, ↓reduceIte, Nat.reduceAdd, Nat.reduceSub, Nat.reduceMul, Nat.reduceLT, Nat.reduceLeDiff, Nat.reduceEqDiff, Nat.reduceBEq, Nat.reduceBNe, Int.reduceToNat, Int.reduceLT, Int.reduceLE, Int.reduceNeg, reduceCtorEq, Int.reduceEq, Int.reduceNe]
    refine AtFn.pure0 hv ?_
    simp -dsimp -implicitDefEqProofs (maxSteps := 1000000) only [go_sem, ↓reduceIte, Nat.reduceAdd, Nat.reduceSub, Nat.reduceMul, Nat.reduceLT, Nat.reduceLeDiff, Nat.reduceEqDiff, Nat.reduceBEq, Nat.reduceBNe, Int.reduceToNat, Int.reduceLT, Int.reduceLE, Int.reduceNeg, reduceCtorEq, Int.reduceEq, Int.reduceNe, hc]
    refine AtFn.pure hm ?_
    simp -dsimp -implicitDefEqProofs (maxSteps := 1000000) only [go_sem, ↓reduceIte, Nat.reduceAdd, Nat.reduceSub, Nat.reduceMul, Nat.reduceLT, Nat.reduceLeDiff, Nat.reduceEqDiff, Nat.reduceBEq, Nat.reduceBNe, Int.reduceToNat, Int.reduceLT, Int.reduceLE, Int.reduceNeg, reduceCtorEq, Int.reduceEq, Int.reduceNe, clPxT]
    rfl
  · have hc : vaB r = false := by simpa using hc
    refine pE hc ?_
    obtain ⟨w, h, p⟩ := r
    refine PFun.intro 400 mixed Tryd.func44 (by kernel_rfl) rfl (by first | exact .v _ | (simp [Cl_v, Cl_t, Cl_g, Cl_fn, Cl_rp, Cl_ro]; done) | (simp [Cl_v, Cl_t, Cl_g, Cl_fn, Cl_rp, Cl_ro, or_imp, forall_and]; done) | (split <;> simp [Cl_v, Cl_t, Cl_g, Cl_fn, Cl_rp, Cl_ro])) (Nat.le_of_ble_eq_true rfl) ?_; rw [Tryd.ntmps44, Tryd.results44]
    simp -dsimp -implicitDefEqProofs (maxSteps := 1000000) only [go_sem, ↓reduceIte, Nat.reduceAdd, Nat.reduceSub, Nat.reduceMul, Nat.reduceLT, Nat.reduceLeDiff, Nat.reduceEqDiff, Nat.reduceBEq, Nat.reduceBNe, Int.reduceToNat, Int.reduceLT, Int.reduceLE, Int.reduceNeg, reduceCtorEq, Int.reduceEq, Int.reduceNe]
    refine AtFn.pure0 hv ?_
    simp -dsimp -implicitDefEqProofs (maxSteps := 1000000) only [go_sem, ↓reduceIte, Nat.reduceAdd, Nat.reduceSub, Nat.reduceMul, Nat.reduceLT, Nat.reduceLeDiff, Nat.reduceEqDiff, Nat.reduceBEq, Nat.reduceBNe, Int.reduceToNat, Int.reduceLT, Int.reduceLE, Int.reduceNeg, reduceCtorEq, Int.reduceEq, Int.reduceNe, hc]
    refine AtFn.pure0 (none53 2) ?_
    simp -dsimp -implicitDefEqProofs (maxSteps := 1000000) only [go_sem, ↓reduceIte, Nat.reduceAdd, Nat.reduceSub, Nat.reduceMul, Nat.reduceLT, Nat.reduceLeDiff, Nat.reduceEqDiff, Nat.reduceBEq, Nat.reduceBNe, Int.reduceToNat, Int.reduceLT, Int.reduceLE, Int.reduceNeg, reduceCtorEq, Int.reduceEq, Int.reduceNe]
def cropC (r : Ra) (x y w h : Int) : Bool := decide (1 ≤ w) && decide (1 ≤ h) && decide (0 ≤ x) && decide (0 ≤ y) && decide (x < r.w) && decide (y < r.h) && decide (w ≤ r.w - x) && decide (h ≤ r.h - y)
def cropP (r : Ra) (x y w h : Int) : Ra × Int := if vaB r then (if cropC r x y w h then (mkR w.toNat h.toNat fun i j => px r.p r.w.toNat (x.toNat + i) (y.toNat + j), 0) else (raZ, 17)) else (raZ, 2)
theorem crop45 (r : Ra) (x y w h : Int) : PFun Tryd.prog 45 [RaA r, I x, I y, I w, I h] (RE (cropP r x y w h)) := by
  have hv := valid62 r
  unfold cropP
  by_cases hc : vaB r = true
  · refine pT hc ?_
    obtain ⟨w0, h0, p, rfl, w1, w2, h1, h2, hlen⟩ := vaR_of hc
    by_cases hd : cropC ⟨w0, h0, p⟩ x y w h = true
    · refine pT hd ?_
      simp only [cropC, Bool.and_eq_true, decide_eq_true_eq] at hd
      obtain ⟨⟨⟨⟨⟨⟨⟨d1, d2⟩, d3⟩, d4⟩, d5⟩, d6⟩, d7⟩, d8⟩ := hd
      obtain ⟨x, rfl⟩ := Int.eq_ofNat_of_zero_le d3
      obtain ⟨y, rfl⟩ := Int.eq_ofNat_of_zero_le d4
      obtain ⟨w, rfl⟩ := Int.eq_ofNat_of_zero_le (show 0 ≤ w by omega)
      obtain ⟨h, rfl⟩ := Int.eq_ofNat_of_zero_le (show 0 ≤ h by omega)
      have hm := made69 w h (by omega) (by omega) (by omega) (by omega) 83 [.rp [I (w0 : Int), I (h0 : Int), .ro 1 (pxC p)] 0, .rp [I (y : Int)] 0, .rp [I (x : Int)] 0] (by simp [Cl_rp, Cl_v, Cl_ro, clPxT]) _ (fun i j hi hj => crop83 w0 h0 p w2 h2 hlen x y i j (by omega) (by omega))
      have f1 : ¬ (w : Int) < 1 := by omega
      have f2 : ¬ (h : Int) < 1 := by omega
      have f3 : ¬ (x : Int) < 0 := by omega
      have f4 : ¬ (y : Int) < 0 := by omega
      have f5 : ¬ (w0 : Int) ≤ x := by omega
      have f6 : ¬ (h0 : Int) ≤ y := by omega
      have g1 := wrS (a := w0) (b := x) (by omega) (by omega)
      have g2 := wrS (a := h0) (b := y) (by omega) (by omega)
      have f7 : ¬ ((w0 - x : Nat) : Int) < w := by omega
      have f8 : ¬ ((h0 - y : Nat) : Int) < h := by omega
      refine PFun.intro 400 mixed Tryd.func45 (by kernel_rfl) rfl (clRE _) (Nat.le_of_ble_eq_true rfl) ?_; rw [Tryd.ntmps45, Tryd.results45]
      simp -dsimp -implicitDefEqProofs (maxSteps := 1000000) only [go_sem, ↓reduceIte, Nat.reduceAdd, Nat.reduceSub, Nat.reduceMul, Nat.reduceLT, Nat.reduceLeDiff, Nat.reduceEqDiff, Nat.reduceBEq, Nat.reduceBNe, Int.reduceToNat, Int.reduceLT, Int.reduceLE, Int.reduceNeg, reduceCtorEq, Int.reduceEq, Int.reduceNe]
      refine AtFn.pure0 hv ?_
      simp -dsimp -implicitDefEqProofs (maxSteps := 1000000) only [go_sem, ↓reduceIte, Nat.reduceAdd, Nat.reduceSub, Nat.reduceMul, Nat.reduceLT, Nat.reduceLeDiff, Nat.reduceEqDiff, Nat.reduceBEq, Nat.reduceBNe, Int.reduceToNat, Int.reduceLT, Int.reduceLE, Int.reduceNeg, reduceCtorEq, Int.reduceEq, Int.reduceNe, hc, f1, f2, f3, f4, f5, f6, g1, g2, f7, f8]
      refine AtFn.pure hm ?_
      simp -dsimp -implicitDefEqProofs (maxSteps := 1000000) only [go_sem, ↓reduceIte, Nat.reduceAdd, Nat.reduceSub, Nat.reduceMul, Nat.reduceLT, Nat.reduceLeDiff, Nat.reduceEqDiff, Nat.reduceBEq, Nat.reduceBNe, Int.reduceToNat, Int.reduceLT, Int.reduceLE, Int.reduceNeg, reduceCtorEq, Int.reduceEq, Int.reduceNe, clPxT]
      rfl
    · have hd : cropC ⟨w0, h0, p⟩ x y w h = false := by simpa using hd
      refine pE hd ?_
      refine PFun.intro 400 mixed Tryd.func45 (by kernel_rfl) rfl (by first | exact .v _ | (simp [Cl_v, Cl_t, Cl_g, Cl_fn, Cl_rp, Cl_ro]; done) | (simp [Cl_v, Cl_t, Cl_g, Cl_fn, Cl_rp, Cl_ro, or_imp, forall_and]; done) | (split <;> simp [Cl_v, Cl_t, Cl_g, Cl_fn, Cl_rp, Cl_ro])) (Nat.le_of_ble_eq_true rfl) ?_; rw [Tryd.ntmps45, Tryd.results45]
      simp -dsimp -implicitDefEqProofs (maxSteps := 1000000) only [go_sem, ↓reduceIte, Nat.reduceAdd, Nat.reduceSub, Nat.reduceMul, Nat.reduceLT, Nat.reduceLeDiff, Nat.reduceEqDiff, Nat.reduceBEq, Nat.reduceBNe, Int.reduceToNat, Int.reduceLT, Int.reduceLE, Int.reduceNeg, reduceCtorEq, Int.reduceEq, Int.reduceNe]
      refine AtFn.pure0 hv ?_
      simp -dsimp -implicitDefEqProofs (maxSteps := 1000000) only [go_sem, ↓reduceIte, Nat.reduceAdd, Nat.reduceSub, Nat.reduceMul, Nat.reduceLT, Nat.reduceLeDiff, Nat.reduceEqDiff, Nat.reduceBEq, Nat.reduceBNe, Int.reduceToNat, Int.reduceLT, Int.reduceLE, Int.reduceNeg, reduceCtorEq, Int.reduceEq, Int.reduceNe, hc]
      repeat' (first | (apply And.intro <;> (try intro _) <;> try simp -dsimp -implicitDefEqProofs (maxSteps := 1000000) only [go_sem, ↓reduceIte, Nat.reduceAdd, Nat.reduceSub, Nat.reduceMul, Nat.reduceLT, Nat.reduceLeDiff, Nat.reduceEqDiff, Nat.reduceBEq, Nat.reduceBNe, Int.reduceToNat, Int.reduceLT, Int.reduceLE, Int.reduceNeg, reduceCtorEq, Int.reduceEq, Int.reduceNe]) | (refine AtFn.pure0 (none53 17) ?_; try simp -dsimp -implicitDefEqProofs (maxSteps := 1000000) only [go_sem, ↓reduceIte, Nat.reduceAdd, Nat.reduceSub, Nat.reduceMul, Nat.reduceLT, Nat.reduceLeDiff, Nat.reduceEqDiff, Nat.reduceBEq, Nat.reduceBNe, Int.reduceToNat, Int.reduceLT, Int.reduceLE, Int.reduceNeg, reduceCtorEq, Int.reduceEq, Int.reduceNe]))
      all_goals (exfalso; simp only [cropC, Bool.and_eq_false_iff, decide_eq_false_iff_not] at hd; have z1 : wr ((w0 : Int) - x) = w0 - x := wr_in (by omega) (by omega); have z2 : wr ((h0 : Int) - y) = h0 - y := wr_in (by omega) (by omega); rename_i q1 q2; rw [z1] at q1; rw [z2] at q2; omega)
  · have hc : vaB r = false := by simpa using hc
    refine pE hc ?_
    obtain ⟨w', h', p⟩ := r
    refine PFun.intro 400 mixed Tryd.func45 (by kernel_rfl) rfl (by first | exact .v _ | (simp [Cl_v, Cl_t, Cl_g, Cl_fn, Cl_rp, Cl_ro]; done) | (simp [Cl_v, Cl_t, Cl_g, Cl_fn, Cl_rp, Cl_ro, or_imp, forall_and]; done) | (split <;> simp [Cl_v, Cl_t, Cl_g, Cl_fn, Cl_rp, Cl_ro])) (Nat.le_of_ble_eq_true rfl) ?_; rw [Tryd.ntmps45, Tryd.results45]
    simp -dsimp -implicitDefEqProofs (maxSteps := 1000000) only [go_sem, ↓reduceIte, Nat.reduceAdd, Nat.reduceSub, Nat.reduceMul, Nat.reduceLT, Nat.reduceLeDiff, Nat.reduceEqDiff, Nat.reduceBEq, Nat.reduceBNe, Int.reduceToNat, Int.reduceLT, Int.reduceLE, Int.reduceNeg, reduceCtorEq, Int.reduceEq, Int.reduceNe]
    refine AtFn.pure0 hv ?_
    simp -dsimp -implicitDefEqProofs (maxSteps := 1000000) only [go_sem, ↓reduceIte, Nat.reduceAdd, Nat.reduceSub, Nat.reduceMul, Nat.reduceLT, Nat.reduceLeDiff, Nat.reduceEqDiff, Nat.reduceBEq, Nat.reduceBNe, Int.reduceToNat, Int.reduceLT, Int.reduceLE, Int.reduceNeg, reduceCtorEq, Int.reduceEq, Int.reduceNe, hc]
    refine AtFn.pure0 (none53 2) ?_
    simp -dsimp -implicitDefEqProofs (maxSteps := 1000000) only [go_sem, ↓reduceIte, Nat.reduceAdd, Nat.reduceSub, Nat.reduceMul, Nat.reduceLT, Nat.reduceLeDiff, Nat.reduceEqDiff, Nat.reduceBEq, Nat.reduceBNe, Int.reduceToNat, Int.reduceLT, Int.reduceLE, Int.reduceNeg, reduceCtorEq, Int.reduceEq, Int.reduceNe]
theorem near_bd (n : Int) : -512 ≤ nearV n ∧ nearV n ≤ 512 := by unfold nearV; omega
def shF (r : Ra) (dx dy n : Int) (i j : Nat) : Int := if hasB r ((i : Int) - dx) ((j : Int) - dy) then px r.p r.w.toNat ((i : Int) - dx).toNat ((j : Int) - dy).toNat else n
theorem shF_near {w h : Nat} (hw : w ≤ 256) (hh : h ≤ 256) (p : List Int) (dx dy n : Int) (i j : Nat) (hi : i < w) (hj : j < h) : shF ⟨w, h, p⟩ (nearV dx) (nearV dy) n i j = shF ⟨w, h, p⟩ dx dy n i j := by
  by_cases h1 : nearV dx = dx ∧ nearV dy = dy
  · rw [h1.1, h1.2]
  · have e1 : hasB ⟨w, h, p⟩ ((i : Int) - nearV dx) ((j : Int) - nearV dy) = false := by
      unfold nearV at h1 ⊢
      simp only [hasB, Bool.and_eq_false_iff, decide_eq_false_iff_not]
      omega
    have e2 : hasB ⟨w, h, p⟩ ((i : Int) - dx) ((j : Int) - dy) = false := by
      unfold nearV at h1
      simp only [hasB, Bool.and_eq_false_iff, decide_eq_false_iff_not]
      omega
    unfold shF
    rw [e1, e2]
    rfl
theorem has_of {w h : Nat} {p : List Int} {x y : Int} (hb : hasB ⟨w, h, p⟩ x y = true) : ∃ i j : Nat, x = i ∧ y = j ∧ i < w ∧ j < h := by
  simp only [hasB, Bool.and_eq_true, decide_eq_true_eq] at hb
  obtain ⟨i, rfl⟩ := Int.eq_ofNat_of_zero_le hb.1.1.1
  obtain ⟨j, rfl⟩ := Int.eq_ofNat_of_zero_le hb.1.2
  exact ⟨i, j, rfl, rfl, by omega, by omega⟩
theorem shift70 (w h : Nat) (p : List Int) (hw2 : w ≤ 256) (hh2 : h ≤ 256) (hlen : p.length = w * h) (i j : Nat) (hi : i < w) (hj : j < h) (dx dy n : Int) (hx : -512 ≤ dx ∧ dx ≤ 512) (hy : -512 ≤ dy ∧ dy ≤ 512) (hn : inkB n = true) :
    PFun Tryd.prog 70 [I i, I j, .rp [I w, I h, .ro 1 (pxC p)] 0, .rp [I dx] 0, .rp [I dy] 0, .rp [I n] 0] (U (shF ⟨w, h, p⟩ dx dy n i j)) := by
  have hw0 := prodN hw2 hh2
  have e1 : wr ((i : Int) - dx) = (i : Int) - dx := wr_in (by omega) (by omega)
  have e2 : wr ((j : Int) - dy) = (j : Int) - dy := wr_in (by omega) (by omega)
  have hb := has71 ⟨w, h, p⟩ ((i : Int) - dx) ((j : Int) - dy)
  unfold shF
  by_cases hc : hasB ⟨w, h, p⟩ ((i : Int) - dx) ((j : Int) - dy) = true
  · rw [if_pos hc]
    obtain ⟨a, b, ha, hb', ha2, hb2⟩ := has_of hc
    have hil := idx_lt (i := a) (j := b) (w := w) (h := h) ha2 hb2
    have hget := getD_some (p := p) (hlen ▸ hil)
    have hli : ((b * w + a : Nat) : Int) < (p.length : Int) := by omega
    have e1 := e1.trans ha
    have e2 := e2.trans hb'
    rw [ha, hb'] at hb hc ⊢
    have e3 := wrM (a := b) (b := w) (by omega)
    have e4 : wr (((b * w : Nat) : Int) + (i : Int)) = ((b * w + i : Nat) : Int) := wrA (by omega)
    have e5 : wr (((b * w + i : Nat) : Int) - dx) = ((b * w + a : Nat) : Int) := by rw [wr_in] <;> omega
    refine PFun.intro 400 mixed Tryd.func70 (by kernel_rfl) rfl (by first | exact .v _ | (simp [Cl_v, Cl_t, Cl_g, Cl_fn, Cl_rp, Cl_ro]; done) | (simp [Cl_v, Cl_t, Cl_g, Cl_fn, Cl_rp, Cl_ro, or_imp, forall_and]; done) | (split <;> simp [Cl_v, Cl_t, Cl_g, Cl_fn, Cl_rp, Cl_ro])) (Nat.le_of_ble_eq_true rfl) ?_; rw [Tryd.ntmps70, Tryd.results70]
    simp -dsimp -implicitDefEqProofs (maxSteps := 1000000) only [go_sem, ↓reduceIte, Nat.reduceAdd, Nat.reduceSub, Nat.reduceMul, Nat.reduceLT, Nat.reduceLeDiff, Nat.reduceEqDiff, Nat.reduceBEq, Nat.reduceBNe, Int.reduceToNat, Int.reduceLT, Int.reduceLE, Int.reduceNeg, reduceCtorEq, Int.reduceEq, Int.reduceNe, e1, e2]
    refine AtFn.pure0 hb ?_
    simp -dsimp -implicitDefEqProofs (maxSteps := 1000000) only [go_sem, ↓reduceIte, Nat.reduceAdd, Nat.reduceSub, Nat.reduceMul, Nat.reduceLT, Nat.reduceLeDiff, Nat.reduceEqDiff, Nat.reduceBEq, Nat.reduceBNe, Int.reduceToNat, Int.reduceLT, Int.reduceLE, Int.reduceNeg, reduceCtorEq, Int.reduceEq, Int.reduceNe, hc, e1, e2, e3, e4, e5, pxC_len, pxC_get, Int.natCast_nonneg, Int.toNat_natCast, Nat.zero_add, hget]
    rfl
  · rw [if_neg hc]
    have hc : hasB ⟨w, h, p⟩ ((i : Int) - dx) ((j : Int) - dy) = false := by simpa using hc
    refine PFun.intro 400 mixed Tryd.func70 (by kernel_rfl) rfl (by first | exact .v _ | (simp [Cl_v, Cl_t, Cl_g, Cl_fn, Cl_rp, Cl_ro]; done) | (simp [Cl_v, Cl_t, Cl_g, Cl_fn, Cl_rp, Cl_ro, or_imp, forall_and]; done) | (split <;> simp [Cl_v, Cl_t, Cl_g, Cl_fn, Cl_rp, Cl_ro])) (Nat.le_of_ble_eq_true rfl) ?_; rw [Tryd.ntmps70, Tryd.results70]
    simp -dsimp -implicitDefEqProofs (maxSteps := 1000000) only [go_sem, ↓reduceIte, Nat.reduceAdd, Nat.reduceSub, Nat.reduceMul, Nat.reduceLT, Nat.reduceLeDiff, Nat.reduceEqDiff, Nat.reduceBEq, Nat.reduceBNe, Int.reduceToNat, Int.reduceLT, Int.reduceLE, Int.reduceNeg, reduceCtorEq, Int.reduceEq, Int.reduceNe, e1, e2]
    refine AtFn.pure0 hb ?_
    simp -dsimp -implicitDefEqProofs (maxSteps := 1000000) only [go_sem, ↓reduceIte, Nat.reduceAdd, Nat.reduceSub, Nat.reduceMul, Nat.reduceLT, Nat.reduceLeDiff, Nat.reduceEqDiff, Nat.reduceBEq, Nat.reduceBNe, Int.reduceToNat, Int.reduceLT, Int.reduceLE, Int.reduceNeg, reduceCtorEq, Int.reduceEq, Int.reduceNe, hc, u8_ink hn]
def shiftP (r : Ra) (dx dy n : Int) : Ra × Int := if vaB r && inkB n then (mkR r.w.toNat r.h.toNat (shF r dx dy n), 0) else (raZ, 2)
theorem mkR_congr {w h : Nat} {f g : Nat → Nat → Int} (he : ∀ i j, i < w → j < h → f i j = g i j) : mkR w h f = mkR w h g := by
  unfold mkR
  congr 1
  refine List.map_congr_left fun k hk => ?_
  have := mod_lt2 (List.mem_range.1 hk)
  exact he _ _ this.1 this.2
theorem shift28 (r : Ra) (dx dy n : Int) : PFun Tryd.prog 28 [RaA r, I dx, I dy, I n] (RE (shiftP r dx dy n)) := by
  have hv := valid62 r
  unfold shiftP
  by_cases hc : (vaB r && inkB n) = true
  · refine pT hc ?_
    simp only [Bool.and_eq_true] at hc
    obtain ⟨hc, hn⟩ := hc
    obtain ⟨w, h, p, rfl, w1, w2, h1, h2, hlen⟩ := vaR_of hc
    have b1 := near_bd dx
    have b2 := near_bd dy
    have hm := made69 w h w1 w2 h1 h2 70 [.rp [I (w : Int), I (h : Int), .ro 1 (pxC p)] 0, .rp [I (nearV dx)] 0, .rp [I (nearV dy)] 0, .rp [I n] 0] (by simp [Cl_rp, Cl_v, Cl_ro, clPxT]) _ (fun i j hi hj => shift70 w h p w2 h2 hlen i j hi hj _ _ n b1 b2 hn)
    rw [mkR_congr (fun i j hi hj => shF_near w2 h2 p dx dy n i j hi hj)] at hm
    refine PFun.intro 400 mixed Tryd.func28 (by kernel_rfl) rfl (clRE _) (Nat.le_of_ble_eq_true rfl) ?_; rw [Tryd.ntmps28, Tryd.results28]
    simp -dsimp -implicitDefEqProofs (maxSteps := 1000000) only [go_sem, ↓reduceIte, Nat.reduceAdd, Nat.reduceSub, Nat.reduceMul, Nat.reduceLT, Nat.reduceLeDiff, Nat.reduceEqDiff, Nat.reduceBEq, Nat.reduceBNe, Int.reduceToNat, Int.reduceLT, Int.reduceLE, Int.reduceNeg, reduceCtorEq, Int.reduceEq, Int.reduceNe]
    refine AtFn.pure0 hv ?_
    simp -dsimp -implicitDefEqProofs (maxSteps := 1000000) only [go_sem, ↓reduceIte, Nat.reduceAdd, Nat.reduceSub, Nat.reduceMul, Nat.reduceLT, Nat.reduceLeDiff, Nat.reduceEqDiff, Nat.reduceBEq, Nat.reduceBNe, Int.reduceToNat, Int.reduceLT, Int.reduceLE, Int.reduceNeg, reduceCtorEq, Int.reduceEq, Int.reduceNe, hc]
    refine AtFn.pure0 (ink67 n) ?_
    simp -dsimp -implicitDefEqProofs (maxSteps := 1000000) only [go_sem, ↓reduceIte, Nat.reduceAdd, Nat.reduceSub, Nat.reduceMul, Nat.reduceLT, Nat.reduceLeDiff, Nat.reduceEqDiff, Nat.reduceBEq, Nat.reduceBNe, Int.reduceToNat, Int.reduceLT, Int.reduceLE, Int.reduceNeg, reduceCtorEq, Int.reduceEq, Int.reduceNe, hn]
    refine AtCode.draw 4 [([], []), ([0], []), ([], []), ([0, 1, 2], []), ([0, 1, 2, 3], []), ([0, 1, 2, 3, 4], [])] (by kernel_rfl) ?_
    simp -dsimp -implicitDefEqProofs (maxSteps := 1000000) only [go_sem, ↓reduceIte, Nat.reduceAdd, Nat.reduceSub, Nat.reduceMul, Nat.reduceLT, Nat.reduceLeDiff, Nat.reduceEqDiff, Nat.reduceBEq, Nat.reduceBNe, Int.reduceToNat, Int.reduceLT, Int.reduceLE, Int.reduceNeg, reduceCtorEq, Int.reduceEq, Int.reduceNe]
    refine QFn.use _ (near68 dx) (by simp -dsimp -implicitDefEqProofs (maxSteps := 1000000) only [go_sem, ↓reduceIte, Nat.reduceAdd, Nat.reduceSub, Nat.reduceMul, Nat.reduceLT, Nat.reduceLeDiff, Nat.reduceEqDiff, Nat.reduceBEq, Nat.reduceBNe, Int.reduceToNat, Int.reduceLT, Int.reduceLE, Int.reduceNeg, reduceCtorEq, Int.reduceEq, Int.reduceNe]) ?_
    simp -dsimp -implicitDefEqProofs (maxSteps := 1000000) only [go_sem, ↓reduceIte, Nat.reduceAdd, Nat.reduceSub, Nat.reduceMul, Nat.reduceLT, Nat.reduceLeDiff, Nat.reduceEqDiff, Nat.reduceBEq, Nat.reduceBNe, Int.reduceToNat, Int.reduceLT, Int.reduceLE, Int.reduceNeg, reduceCtorEq, Int.reduceEq, Int.reduceNe]
    refine QFn.use _ (near68 dy) (by simp -dsimp -implicitDefEqProofs (maxSteps := 1000000) only [go_sem, ↓reduceIte, Nat.reduceAdd, Nat.reduceSub, Nat.reduceMul, Nat.reduceLT, Nat.reduceLeDiff, Nat.reduceEqDiff, Nat.reduceBEq, Nat.reduceBNe, Int.reduceToNat, Int.reduceLT, Int.reduceLE, Int.reduceNeg, reduceCtorEq, Int.reduceEq, Int.reduceNe]) ?_
    simp -dsimp -implicitDefEqProofs (maxSteps := 1000000) only [go_sem, ↓reduceIte, Nat.reduceAdd, Nat.reduceSub, Nat.reduceMul, Nat.reduceLT, Nat.reduceLeDiff, Nat.reduceEqDiff, Nat.reduceBEq, Nat.reduceBNe, Int.reduceToNat, Int.reduceLT, Int.reduceLE, Int.reduceNeg, reduceCtorEq, Int.reduceEq, Int.reduceNe]
    refine AtFn.pure hm ?_
    simp -dsimp -implicitDefEqProofs (maxSteps := 1000000) only [go_sem, ↓reduceIte, Nat.reduceAdd, Nat.reduceSub, Nat.reduceMul, Nat.reduceLT, Nat.reduceLeDiff, Nat.reduceEqDiff, Nat.reduceBEq, Nat.reduceBNe, Int.reduceToNat, Int.reduceLT, Int.reduceLE, Int.reduceNeg, reduceCtorEq, Int.reduceEq, Int.reduceNe]
    rfl
  · have hc : (vaB r && inkB n) = false := by simpa using hc
    refine pE hc ?_
    obtain ⟨w, h, p⟩ := r
    refine PFun.intro 400 mixed Tryd.func28 (by kernel_rfl) rfl (by first | exact .v _ | (simp [Cl_v, Cl_t, Cl_g, Cl_fn, Cl_rp, Cl_ro]; done) | (simp [Cl_v, Cl_t, Cl_g, Cl_fn, Cl_rp, Cl_ro, or_imp, forall_and]; done) | (split <;> simp [Cl_v, Cl_t, Cl_g, Cl_fn, Cl_rp, Cl_ro])) (Nat.le_of_ble_eq_true rfl) ?_; rw [Tryd.ntmps28, Tryd.results28]
    simp -dsimp -implicitDefEqProofs (maxSteps := 1000000) only [go_sem, ↓reduceIte, Nat.reduceAdd, Nat.reduceSub, Nat.reduceMul, Nat.reduceLT, Nat.reduceLeDiff, Nat.reduceEqDiff, Nat.reduceBEq, Nat.reduceBNe, Int.reduceToNat, Int.reduceLT, Int.reduceLE, Int.reduceNeg, reduceCtorEq, Int.reduceEq, Int.reduceNe]
    refine AtFn.pure0 hv ?_
    simp -dsimp -implicitDefEqProofs (maxSteps := 1000000) only [go_sem, ↓reduceIte, Nat.reduceAdd, Nat.reduceSub, Nat.reduceMul, Nat.reduceLT, Nat.reduceLeDiff, Nat.reduceEqDiff, Nat.reduceBEq, Nat.reduceBNe, Int.reduceToNat, Int.reduceLT, Int.reduceLE, Int.reduceNeg, reduceCtorEq, Int.reduceEq, Int.reduceNe]
    repeat' (first | (apply And.intro <;> (try intro _) <;> try simp -dsimp -implicitDefEqProofs (maxSteps := 1000000) only [go_sem, ↓reduceIte, Nat.reduceAdd, Nat.reduceSub, Nat.reduceMul, Nat.reduceLT, Nat.reduceLeDiff, Nat.reduceEqDiff, Nat.reduceBEq, Nat.reduceBNe, Int.reduceToNat, Int.reduceLT, Int.reduceLE, Int.reduceNeg, reduceCtorEq, Int.reduceEq, Int.reduceNe]) | (refine AtFn.pure0 (ink67 n) ?_; try simp -dsimp -implicitDefEqProofs (maxSteps := 1000000) only [go_sem, ↓reduceIte, Nat.reduceAdd, Nat.reduceSub, Nat.reduceMul, Nat.reduceLT, Nat.reduceLeDiff, Nat.reduceEqDiff, Nat.reduceBEq, Nat.reduceBNe, Int.reduceToNat, Int.reduceLT, Int.reduceLE, Int.reduceNeg, reduceCtorEq, Int.reduceEq, Int.reduceNe]) | (refine AtFn.pure0 (none53 2) ?_; try simp -dsimp -implicitDefEqProofs (maxSteps := 1000000) only [go_sem, ↓reduceIte, Nat.reduceAdd, Nat.reduceSub, Nat.reduceMul, Nat.reduceLT, Nat.reduceLeDiff, Nat.reduceEqDiff, Nat.reduceBEq, Nat.reduceBNe, Int.reduceToNat, Int.reduceLT, Int.reduceLE, Int.reduceNeg, reduceCtorEq, Int.reduceEq, Int.reduceNe]))
    all_goals (exfalso; simp_all)
end

section
set_option maxRecDepth 20000
attribute [local go_sem] clPxT
theorem onePx (l : List Int) : (∀ c ∈ pxC l, ∀ s ∈ c, oneA s = true) := fun c hc s hs => by
  obtain ⟨x, _, rfl⟩ := List.mem_map.1 hc
  rw [List.mem_singleton.1 hs]; rfl
theorem onePxT (l : List Int) : (∀ c ∈ pxC l, ∀ s ∈ c, oneA s = true) ↔ True := iff_true_intro (onePx l)
theorem clone92 (l : List Int) (hl : l.length ≤ 4294967296) : NFun Tryd.prog 92 [.ro 1 (pxC l)] 1 (pxC l) := by
  refine MFun.toN ?_ (clPx l)
  refine MFun.intro 400 [2] mixed Tryd.func92 (by kernel_rfl) rfl (by rw [Tryd.results92]; rfl) (Nat.le_of_ble_eq_true rfl) ?_; rw [Tryd.ntmps92]
  simp -dsimp -implicitDefEqProofs (maxSteps := 1000000) only [go_sem, ↓reduceIte, Nat.reduceAdd, Nat.reduceSub, Nat.reduceMul, Nat.reduceLT, Nat.reduceLeDiff, Nat.reduceEqDiff, Nat.reduceBEq, Nat.reduceBNe, Int.reduceToNat, Int.reduceLT, Int.reduceLE, Int.reduceNeg, reduceCtorEq, Int.reduceEq, Int.reduceNe]
  refine AtOp.isnil (d := 5) rfl (by kernel_rfl) (by simp -dsimp -implicitDefEqProofs (maxSteps := 1000000) only [go_sem, ↓reduceIte, Nat.reduceAdd, Nat.reduceSub, Nat.reduceMul, Nat.reduceLT, Nat.reduceLeDiff, Nat.reduceEqDiff, Nat.reduceBEq, Nat.reduceBNe, Int.reduceToNat, Int.reduceLT, Int.reduceLE, Int.reduceNeg, reduceCtorEq, Int.reduceEq, Int.reduceNe]; rfl) fun b hb => ?_
  simp -dsimp -implicitDefEqProofs (maxSteps := 1000000) only [go_sem, ↓reduceIte, Nat.reduceAdd, Nat.reduceSub, Nat.reduceMul, Nat.reduceLT, Nat.reduceLeDiff, Nat.reduceEqDiff, Nat.reduceBEq, Nat.reduceBNe, Int.reduceToNat, Int.reduceLT, Int.reduceLE, Int.reduceNeg, reduceCtorEq, Int.reduceEq, Int.reduceNe]
  refine ⟨fun h => ?_, fun h => ?_⟩
  · have hl0 : l = [] := by
      cases l with
      | nil => rfl
      | cons x r => exact absurd (hb (by simp [pxC])) (by rw [h]; simp)
    subst hl0
    exact FinM.mk0 [] (by simp -dsimp -implicitDefEqProofs (maxSteps := 1000000) only [go_sem, ↓reduceIte, Nat.reduceAdd, Nat.reduceSub, Nat.reduceMul, Nat.reduceLT, Nat.reduceLeDiff, Nat.reduceEqDiff, Nat.reduceBEq, Nat.reduceBNe, Int.reduceToNat, Int.reduceLT, Int.reduceLE, Int.reduceNeg, reduceCtorEq, Int.reduceEq, Int.reduceNe]) (by simp -dsimp -implicitDefEqProofs (maxSteps := 1000000) only [go_sem, ↓reduceIte, Nat.reduceAdd, Nat.reduceSub, Nat.reduceMul, Nat.reduceLT, Nat.reduceLeDiff, Nat.reduceEqDiff, Nat.reduceBEq, Nat.reduceBNe, Int.reduceToNat, Int.reduceLT, Int.reduceLE, Int.reduceNeg, reduceCtorEq, Int.reduceEq, Int.reduceNe]) (by simp) (by simp [sg])
  · have hl2 : l.length ≤ 274877906944 := by omega
    simp -dsimp -implicitDefEqProofs (maxSteps := 1000000) only [go_sem, ↓reduceIte, Nat.reduceAdd, Nat.reduceSub, Nat.reduceMul, Nat.reduceLT, Nat.reduceLeDiff, Nat.reduceEqDiff, Nat.reduceBEq, Nat.reduceBNe, Int.reduceToNat, Int.reduceLT, Int.reduceLE, Int.reduceNeg, reduceCtorEq, Int.reduceEq, Int.reduceNe, pxC_len]
    refine AtOp.appE _ _ _ _ _ _ _ _ _ _ _ _ _ _ (by kernel_rfl) ?_
    simp -dsimp -implicitDefEqProofs (maxSteps := 1000000) only [go_sem, ↓reduceIte, Nat.reduceAdd, Nat.reduceSub, Nat.reduceMul, Nat.reduceLT, Nat.reduceLeDiff, Nat.reduceEqDiff, Nat.reduceBEq, Nat.reduceBNe, Int.reduceToNat, Int.reduceLT, Int.reduceLE, Int.reduceNeg, reduceCtorEq, Int.reduceEq, Int.reduceNe, pxC_len, onePxT, hl2]
    exact ⟨by omega, FinM.mk0 [(0, 1)] (by simp -dsimp -implicitDefEqProofs (maxSteps := 1000000) only [go_sem, ↓reduceIte, Nat.reduceAdd, Nat.reduceSub, Nat.reduceMul, Nat.reduceLT, Nat.reduceLeDiff, Nat.reduceEqDiff, Nat.reduceBEq, Nat.reduceBNe, Int.reduceToNat, Int.reduceLT, Int.reduceLE, Int.reduceNeg, reduceCtorEq, Int.reduceEq, Int.reduceNe]) (by simp -dsimp -implicitDefEqProofs (maxSteps := 1000000) only [go_sem, ↓reduceIte, Nat.reduceAdd, Nat.reduceSub, Nat.reduceMul, Nat.reduceLT, Nat.reduceLeDiff, Nat.reduceEqDiff, Nat.reduceBEq, Nat.reduceBNe, Int.reduceToNat, Int.reduceLT, Int.reduceLE, Int.reduceNeg, reduceCtorEq, Int.reduceEq, Int.reduceNe]; exact renL_cl rfl (clPx l)) (by simp) (by simp [sg])⟩
theorem renG3 (nm : Nat) (w h : Int) (n : Nat) : Ren (fun _ => nm) [0] (.g [I w, I h, .sl nm 0 n]) (.g [I w, I h, .sl 0 0 n]) := .g rfl fun k a b ha hb => by
    match k with
    | 0 => simp at ha hb; subst ha; subst hb; exact .cl (.v _)
    | 1 => simp at ha hb; subst ha; subst hb; exact .cl (.v _)
    | 2 => simp at ha hb; subst ha; subst hb; exact .sl (σ := fun _ => nm) (List.mem_singleton.2 rfl)
    | k + 3 => simp at ha
theorem clone72 (w h : Int) (p : List Int) (hl : p.length ≤ 4294967296) : RFun Tryd.prog 72 [.g [I w, I h, .ro 1 (pxC p)]] 1 (pxC p) (.g [I w, I h, .sl 0 0 p.length]) := by
  refine RFun.intro 400 2 mixed Tryd.func72 (by kernel_rfl) rfl (clPx _) (Nat.le_of_ble_eq_true rfl) ?_; rw [Tryd.ntmps72, Tryd.results72]
  simp -dsimp -implicitDefEqProofs (maxSteps := 1000000) only [go_sem, ↓reduceIte, Nat.reduceAdd, Nat.reduceSub, Nat.reduceMul, Nat.reduceLT, Nat.reduceLeDiff, Nat.reduceEqDiff, Nat.reduceBEq, Nat.reduceBNe, Int.reduceToNat, Int.reduceLT, Int.reduceLE, Int.reduceNeg, reduceCtorEq, Int.reduceEq, Int.reduceNe]
  refine AtFn.new (clone92 p hl) ?_
  simp -dsimp -implicitDefEqProofs (maxSteps := 1000000) only [go_sem, ↓reduceIte, Nat.reduceAdd, Nat.reduceSub, Nat.reduceMul, Nat.reduceLT, Nat.reduceLeDiff, Nat.reduceEqDiff, Nat.reduceBEq, Nat.reduceBNe, Int.reduceToNat, Int.reduceLT, Int.reduceLE, Int.reduceNeg, reduceCtorEq, Int.reduceEq, Int.reduceNe, pxC_len]
  exact renG3 _ _ _ _
theorem copy34 (w h : Int) (p : List Int) (hl : p.length ≤ 4294967296) : RFun Tryd.prog 34 [.g [I w, I h, .ro 1 (pxC p)]] 1 (pxC p) (.g [I w, I h, .sl 0 0 p.length]) := by
  refine RFun.intro 400 9 mixed Tryd.func34 (by kernel_rfl) rfl (clPx _) (Nat.le_of_ble_eq_true rfl) ?_; rw [Tryd.ntmps34, Tryd.results34]
  simp -dsimp -implicitDefEqProofs (maxSteps := 1000000) only [go_sem, ↓reduceIte, Nat.reduceAdd, Nat.reduceSub, Nat.reduceMul, Nat.reduceLT, Nat.reduceLeDiff, Nat.reduceEqDiff, Nat.reduceBEq, Nat.reduceBNe, Int.reduceToNat, Int.reduceLT, Int.reduceLE, Int.reduceNeg, reduceCtorEq, Int.reduceEq, Int.reduceNe]
  refine AtCode.draw 9 [([], []), ([0], []), ([], []), ([2], []), ([], []), ([], []), ([5], []), ([4, 5, 6], []), ([0, 1, 2, 3, 4, 5, 6, 7], []), ([0, 1, 2, 3, 4, 5, 6, 7, 8], [])] (by kernel_rfl) ?_
  simp -dsimp -implicitDefEqProofs (maxSteps := 1000000) only [go_sem, ↓reduceIte, Nat.reduceAdd, Nat.reduceSub, Nat.reduceMul, Nat.reduceLT, Nat.reduceLeDiff, Nat.reduceEqDiff, Nat.reduceBEq, Nat.reduceBNe, Int.reduceToNat, Int.reduceLT, Int.reduceLE, Int.reduceNeg, reduceCtorEq, Int.reduceEq, Int.reduceNe, pxC_len, onePxT]
  exact ⟨by omega, renG3 _ _ _ _⟩
theorem made59 (w h : Nat) (hN2 : w * h ≤ 65536) (n : Int) : RFun Tryd.prog 59 [I w, I h, I n] 1 (pxC (List.replicate (w * h) (IntKind.u8.wrap n))) (.g [I w, I h, .sl 0 0 (w * h)]) := by
  obtain ⟨N, hN⟩ : ∃ N, N = w * h := ⟨_, rfl⟩
  rw [← hN] at hN2 ⊢
  have eN : wr ((w : Int) * (h : Int)) = (N : Int) := by rw [← Int.natCast_mul, ← hN, wr_in] <;> omega
  obtain ⟨v, hv⟩ : ∃ v, v = IntKind.u8.wrap n := ⟨_, rfl⟩
  rw [← hv]
  refine RFun.intro 400 2 mixed Tryd.func59 (by kernel_rfl) rfl (clPx _) (Nat.le_of_ble_eq_true rfl) ?_; rw [Tryd.ntmps59, Tryd.results59]
  simp -dsimp -implicitDefEqProofs (maxSteps := 1000000) only [go_sem, ↓reduceIte, Nat.reduceAdd, Nat.reduceSub, Nat.reduceMul, Nat.reduceLT, Nat.reduceLeDiff, Nat.reduceEqDiff, Nat.reduceBEq, Nat.reduceBNe, Int.reduceToNat, Int.reduceLT, Int.reduceLE, Int.reduceNeg, reduceCtorEq, Int.reduceEq, Int.reduceNe, eN]
  refine ⟨{i : Nat // i ≤ N}, fun i => ⟨25, tl [(0, I w), (1, I h), (2, I n), (6, .ptr 0 0 0), (7, .ptr 1 0 0), (13, I (N : Nat)), (14, I i.1)], [(1, ⟨3, [[I w, I h, .sl 2 0 i.1]]⟩), (0, ⟨3, [[I 0, I 0, .v (.slice none 0 0)]]⟩), (2, ⟨1, pxC (List.replicate i.1 v)⟩)], 3, .nil⟩, fun i => N - i.1,
    ⟨⟨0, by omega⟩, Le.tl0 (Ls := []) (y := none) [] ?_ ?_ (by simp) (by simp [sg]) trivial⟩, fun i => ?_⟩
  · simp -dsimp -implicitDefEqProofs (maxSteps := 1000000) only [go_sem, ↓reduceIte, Nat.reduceAdd, Nat.reduceSub, Nat.reduceMul, Nat.reduceLT, Nat.reduceLeDiff, Nat.reduceEqDiff, Nat.reduceBEq, Nat.reduceBNe, Int.reduceToNat, Int.reduceLT, Int.reduceLE, Int.reduceNeg, reduceCtorEq, Int.reduceEq, Int.reduceNe]
  · simp -dsimp -implicitDefEqProofs (maxSteps := 1000000) only [go_sem, ↓reduceIte, Nat.reduceAdd, Nat.reduceSub, Nat.reduceMul, Nat.reduceLT, Nat.reduceLeDiff, Nat.reduceEqDiff, Nat.reduceBEq, Nat.reduceBNe, Int.reduceToNat, Int.reduceLT, Int.reduceLE, Int.reduceNeg, reduceCtorEq, Int.reduceEq, Int.reduceNe]
    exact ⟨renL_F (by simp -dsimp -implicitDefEqProofs (maxSteps := 1000000) only [go_sem, ↓reduceIte, Nat.reduceAdd, Nat.reduceSub, Nat.reduceMul, Nat.reduceLT, Nat.reduceLeDiff, Nat.reduceEqDiff, Nat.reduceBEq, Nat.reduceBNe, Int.reduceToNat, Int.reduceLT, Int.reduceLE, Int.reduceNeg, reduceCtorEq, Int.reduceEq, Int.reduceNe]), renL_F (by simp -dsimp -implicitDefEqProofs (maxSteps := 1000000) only [go_sem, ↓reduceIte, Nat.reduceAdd, Nat.reduceSub, Nat.reduceMul, Nat.reduceLT, Nat.reduceLeDiff, Nat.reduceEqDiff, Nat.reduceBEq, Nat.reduceBNe, Int.reduceToNat, Int.reduceLT, Int.reduceLE, Int.reduceNeg, reduceCtorEq, Int.reduceEq, Int.reduceNe]), rfl⟩
  obtain ⟨i, hi⟩ := i
  simp -dsimp -implicitDefEqProofs (maxSteps := 1000000) only [go_sem, ↓reduceIte, Nat.reduceAdd, Nat.reduceSub, Nat.reduceMul, Nat.reduceLT, Nat.reduceLeDiff, Nat.reduceEqDiff, Nat.reduceBEq, Nat.reduceBNe, Int.reduceToNat, Int.reduceLT, Int.reduceLE, Int.reduceNeg, reduceCtorEq, Int.reduceEq, Int.reduceNe]
  refine ⟨fun h' => ?_, fun hout => ?_⟩
  · have hlt : i < N := by omega
    have e3 := wrA1 (a := i) (by omega)
    refine AtOp.appE _ _ _ _ _ _ _ _ _ _ _ _ _ _ (by kernel_rfl) ?_
    simp -dsimp -implicitDefEqProofs (maxSteps := 1000000) only [go_sem, ↓reduceIte, Nat.reduceAdd, Nat.reduceSub, Nat.reduceMul, Nat.reduceLT, Nat.reduceLeDiff, Nat.reduceEqDiff, Nat.reduceBEq, Nat.reduceBNe, Int.reduceToNat, Int.reduceLT, Int.reduceLE, Int.reduceNeg, reduceCtorEq, Int.reduceEq, Int.reduceNe, pxC_len, List.length_replicate, Nat.zero_add, Nat.le_refl, takePx _ _ (List.length_replicate ..)]
    have e5 : pxC (List.replicate i v) ++ [[AV.v (Value.int IntKind.u8 (IntKind.u8.wrap n))]] = pxC (List.replicate (i + 1) v) := by
      rw [← hv, List.replicate_succ', pxC, pxC, List.map_append]; rfl
    rw [e5]
    refine ⟨by omega, ⟨i + 1, by omega⟩, by show N - (i + 1) < N - i; omega, Le.tl (Ls := []) (y := none) [(2, 4)] (by simp -dsimp -implicitDefEqProofs (maxSteps := 1000000) only [go_sem, ↓reduceIte, Nat.reduceAdd, Nat.reduceSub, Nat.reduceMul, Nat.reduceLT, Nat.reduceLeDiff, Nat.reduceEqDiff, Nat.reduceBEq, Nat.reduceBNe, Int.reduceToNat, Int.reduceLT, Int.reduceLE, Int.reduceNeg, reduceCtorEq, Int.reduceEq, Int.reduceNe, e3]) ?_ (by simp) (by simp [sg]) trivial⟩
    simp -dsimp -implicitDefEqProofs (maxSteps := 1000000) only [go_sem, ↓reduceIte, Nat.reduceAdd, Nat.reduceSub, Nat.reduceMul, Nat.reduceLT, Nat.reduceLeDiff, Nat.reduceEqDiff, Nat.reduceBEq, Nat.reduceBNe, Int.reduceToNat, Int.reduceLT, Int.reduceLE, Int.reduceNeg, reduceCtorEq, Int.reduceEq, Int.reduceNe, pxC_len, List.length_replicate]
    exact ⟨renL_F (by simp -dsimp -implicitDefEqProofs (maxSteps := 1000000) only [go_sem, ↓reduceIte, Nat.reduceAdd, Nat.reduceSub, Nat.reduceMul, Nat.reduceLT, Nat.reduceLeDiff, Nat.reduceEqDiff, Nat.reduceBEq, Nat.reduceBNe, Int.reduceToNat, Int.reduceLT, Int.reduceLE, Int.reduceNeg, reduceCtorEq, Int.reduceEq, Int.reduceNe]), renL_F (by simp -dsimp -implicitDefEqProofs (maxSteps := 1000000) only [go_sem, ↓reduceIte, Nat.reduceAdd, Nat.reduceSub, Nat.reduceMul, Nat.reduceLT, Nat.reduceLeDiff, Nat.reduceEqDiff, Nat.reduceBEq, Nat.reduceBNe, Int.reduceToNat, Int.reduceLT, Int.reduceLE, Int.reduceNeg, reduceCtorEq, Int.reduceEq, Int.reduceNe]), renL_cl2 rfl (clPx _)⟩
  · obtain rfl : i = N := by omega
    exact ⟨renG3 _ _ _ _, rfl⟩
end

section
set_option maxRecDepth 20000
attribute [local go_sem] clPxT
def fillO (N : Nat) (f z : Nat → Int) (ord : Nat → Nat) (n : Nat) : List Int := (List.range N).map fun k => if ord k < n then f k else z k
theorem fillO_len (N : Nat) (f z : Nat → Int) (ord : Nat → Nat) (n : Nat) : (fillO N f z ord n).length = N := by simp [fillO]
theorem fillO_0 (N : Nat) (f z : Nat → Int) (ord : Nat → Nat) : fillO N f z ord 0 = (List.range N).map z := by
  unfold fillO
  exact List.map_congr_left fun k _ => if_neg (Nat.not_lt_zero _)
theorem fillO_n {N n : Nat} {f z : Nat → Int} {ord : Nat → Nat} (h : ∀ k, k < N → ord k < n ∨ f k = z k) : fillO N f z ord n = (List.range N).map f := by
  unfold fillO
  refine List.map_congr_left fun k hk => ?_
  rcases h k (List.mem_range.1 hk) with h1 | h1
  · rw [if_pos h1]
  · split
    · rfl
    · exact h1.symm
theorem fillO_skip {N n : Nat} {f z : Nat → Int} {ord : Nat → Nat} (h : ∀ k, k < N → ord k = n → f k = z k) : fillO N f z ord n = fillO N f z ord (n + 1) := by
  unfold fillO
  refine List.map_congr_left fun k hk => ?_
  by_cases h1 : ord k < n
  · rw [if_pos h1, if_pos (by omega)]
  · by_cases h2 : ord k = n
    · rw [if_neg h1, if_pos (by omega)]; exact (h k (List.mem_range.1 hk) h2).symm
    · rw [if_neg h1, if_neg (by omega)]
theorem fillO_set {N n idx : Nat} {f z : Nat → Int} {ord : Nat → Nat} {x : Int} (hi : idx < N) (h : ∀ k, k < N → (ord k = n ↔ k = idx)) (hx : x = f idx) : (pxC (fillO N f z ord n)).set idx [U x] = pxC (fillO N f z ord (n + 1)) := by
  subst hx
  unfold pxC
  rw [← List.map_set (f := fun x => [U x])]
  congr 1
  unfold fillO
  refine List.ext_getElem? fun j => ?_
  rw [List.getElem?_set]
  by_cases hj : j < N
  · simp only [List.length_map, List.length_range, List.getElem?_map, List.getElem?_range hj, Option.map_some]
    have := h j hj
    by_cases hij : idx = j
    · subst hij
      rw [if_pos rfl, if_pos hj, if_pos (by omega)]
    · rw [if_neg hij]
      by_cases h2 : ord j < n
      · rw [if_pos h2, if_pos (by omega)]
      · rw [if_neg h2, if_neg (by omega)]
  · simp only [List.length_map, List.length_range]
    rw [List.getElem?_eq_none (by simp; omega), List.getElem?_eq_none (by simp; omega)]
    split
    · exfalso; omega
    · rfl
theorem fillO_get {N : Nat} {f z : Nat → Int} {ord : Nat → Nat} {n k : Nat} (h : k < N) : ∃ v, (fillO N f z ord n)[k]? = some v := ⟨_, List.getElem?_eq_getElem (by rw [fillO_len]; exact h)⟩
theorem lex_eq {a b c d w : Nat} (hb : b < w) (hd : d < w) : a * w + b = c * w + d ↔ a = c ∧ b = d := by
  constructor
  · intro h
    have h1 : (a * w + b) / w = (c * w + d) / w := by rw [h]
    rw [Nat.mul_comm a, Nat.mul_comm c, Nat.mul_add_div (by omega), Nat.mul_add_div (by omega), Nat.div_eq_of_lt hb, Nat.div_eq_of_lt hd] at h1
    have : a = c := by omega
    subst this
    exact ⟨rfl, by omega⟩
  · rintro ⟨rfl, rfl⟩; rfl
theorem divmod_eq {k h a b : Nat} (ha : a < h) : k = b * h + a ↔ k / h = b ∧ k % h = a := by
  constructor
  · rintro rfl
    rw [Nat.mul_comm b, Nat.mul_add_div (by omega), Nat.div_eq_of_lt ha, Nat.mul_add_mod, Nat.mod_eq_of_lt ha]
    exact ⟨by omega, rfl⟩
  · rintro ⟨rfl, rfl⟩
    exact (Nat.div_add_mod' k h).symm
theorem pxRep (N : Nat) (v : Int) : List.replicate N v = (List.range N).map fun _ => v := by
  rw [List.map_const', List.length_range]
theorem renN3 (nm : Nat) (w h : Int) (n : Nat) : Ren (fun _ => 0) [nm] (.g [I w, I h, .sl 0 0 n]) (.g [I w, I h, .sl nm 0 n]) := .g rfl fun k a b ha hb => by
    match k with
    | 0 => simp at ha hb; subst ha; subst hb; exact .cl (.v _)
    | 1 => simp at ha hb; subst ha; subst hb; exact .cl (.v _)
    | 2 => simp at ha hb; subst ha; subst hb; exact .sl (σ := fun _ => 0) (List.mem_singleton.2 rfl)
    | k + 3 => simp at ha
def turnF (w h : Nat) (p : List Int) (k : Nat) : Int := px p w (k / h) (h - 1 - k % h)
def turnO (w h : Nat) (k : Nat) : Nat := (h - 1 - k % h) * w + k / h
theorem turnO_iff {w h i j : Nat} (hi : i < w) (hj : j < h) (k : Nat) (hk : k < h * w) : turnO w h k = j * w + i ↔ k = i * h + (h - 1 - j) := by
  obtain ⟨m1, m2⟩ := mod_lt2 hk
  unfold turnO
  rw [lex_eq m2 hi, divmod_eq (show h - 1 - j < h by omega)]
  omega
theorem turnF_at {w h i j : Nat} {p : List Int} (hj : j < h) : p.getD (j * w + i) 0 = turnF w h p (i * h + (h - 1 - j)) := by
  obtain ⟨e1, e2⟩ := (divmod_eq (k := i * h + (h - 1 - j)) (b := i) (show h - 1 - j < h by omega)).1 rfl
  unfold turnF px
  rw [e1, e2, show h - 1 - (h - 1 - j) = j by omega]
theorem turn46 (r : Ra) : PFun Tryd.prog 46 [RaA r] (RE (turnP r)) := by
  have hv := valid27 r
  unfold turnP
  by_cases hc : vaB r = true
  · refine pT hc ?_
    obtain ⟨w, h, p, rfl, w1, w2, h1, h2, hlen⟩ := vaR_of hc
    have hp0 := prodN h2 w2
    have hm := made59 h w hp0 0
    have hfin : (mkR (h : Int).toNat (w : Int).toNat fun i j => px p (w : Int).toNat j ((h : Int).toNat - 1 - i)) = ⟨h, w, fillO (h * w) (turnF w h p) (fun _ => 0) (turnO w h) (h * w)⟩ := by
      rw [fillO_n]
      · rfl
      · intro k hk
        refine .inl ?_
        obtain ⟨m1, m2⟩ := mod_lt2 hk
        have := idx_lt (i := k / h) (j := h - 1 - k % h) (w := w) (h := h) m2 (by omega)
        rw [Nat.mul_comm h w]; exact this
    simp only
    rw [hfin]
    refine PFun.intro 400 mixed Tryd.func46 (by kernel_rfl) rfl (clRE _) (Nat.le_of_ble_eq_true rfl) ?_; rw [Tryd.ntmps46, Tryd.results46]
    simp -dsimp -implicitDefEqProofs (maxSteps := 1000000) only [go_sem, ↓reduceIte, Nat.reduceAdd, Nat.reduceSub, Nat.reduceMul, Nat.reduceLT, Nat.reduceLeDiff, Nat.reduceEqDiff, Nat.reduceBEq, Nat.reduceBNe, Int.reduceToNat, Int.reduceLT, Int.reduceLE, Int.reduceNeg, reduceCtorEq, Int.reduceEq, Int.reduceNe]
    refine AtFn.pure0 hv ?_
    simp -dsimp -implicitDefEqProofs (maxSteps := 1000000) only [go_sem, ↓reduceIte, Nat.reduceAdd, Nat.reduceSub, Nat.reduceMul, Nat.reduceLT, Nat.reduceLeDiff, Nat.reduceEqDiff, Nat.reduceBEq, Nat.reduceBNe, Int.reduceToNat, Int.reduceLT, Int.reduceLE, Int.reduceNeg, reduceCtorEq, Int.reduceEq, Int.reduceNe, hc]
    refine AtFn.newR (.g [I (h : Int), I (w : Int), .sl 2 0 (h * w)]) hm (renN3 2 _ _ _) ?_
    simp -dsimp -implicitDefEqProofs (maxSteps := 1000000) only [go_sem, ↓reduceIte, Nat.reduceAdd, Nat.reduceSub, Nat.reduceMul, Nat.reduceLT, Nat.reduceLeDiff, Nat.reduceEqDiff, Nat.reduceBEq, Nat.reduceBNe, Int.reduceToNat, Int.reduceLT, Int.reduceLE, Int.reduceNeg, reduceCtorEq, Int.reduceEq, Int.reduceNe]
    obtain ⟨N, hN⟩ : ∃ N, N = h * w := ⟨_, rfl⟩
    rw [← hN] at hp0 ⊢
    have e0 : IntKind.u8.wrap 0 = 0 := by decide
    refine ⟨{j : Nat // j ≤ h}, fun j => ⟨52, tl [(1, .ptr 0 0 0), (2, .ptr 1 0 0), (3, I 0), (4, .ptr 3 0 0), (17, I h), (18, I j.1)], [(3, ⟨3, [[I (h : Int), I (w : Int), .sl 2 0 N]]⟩), (2, ⟨1, pxC (fillO N (turnF w h p) (fun _ => 0) (turnO w h) (j.1 * w))⟩), (1, ⟨3, [[I 0, I 0, .v (.slice none 0 0)]]⟩), (0, ⟨3, [[I w, I h, .ro 1 (pxC p)]]⟩)], 4, .nil⟩, fun j => h - j.1,
      ⟨⟨0, by omega⟩, Le.tl (Ls := []) (y := none) [] (by simp -dsimp -implicitDefEqProofs (maxSteps := 1000000) only [go_sem, ↓reduceIte, Nat.reduceAdd, Nat.reduceSub, Nat.reduceMul, Nat.reduceLT, Nat.reduceLeDiff, Nat.reduceEqDiff, Nat.reduceBEq, Nat.reduceBNe, Int.reduceToNat, Int.reduceLT, Int.reduceLE, Int.reduceNeg, reduceCtorEq, Int.reduceEq, Int.reduceNe]) ?_ (by simp) (by simp [sg]) trivial⟩, fun j => ?_⟩
    · simp -dsimp -implicitDefEqProofs (maxSteps := 1000000) only [go_sem, ↓reduceIte, Nat.reduceAdd, Nat.reduceSub, Nat.reduceMul, Nat.reduceLT, Nat.reduceLeDiff, Nat.reduceEqDiff, Nat.reduceBEq, Nat.reduceBNe, Int.reduceToNat, Int.reduceLT, Int.reduceLE, Int.reduceNeg, reduceCtorEq, Int.reduceEq, Int.reduceNe, e0]
      exact ⟨renL_F (by simp -dsimp -implicitDefEqProofs (maxSteps := 1000000) only [go_sem, ↓reduceIte, Nat.reduceAdd, Nat.reduceSub, Nat.reduceMul, Nat.reduceLT, Nat.reduceLeDiff, Nat.reduceEqDiff, Nat.reduceBEq, Nat.reduceBNe, Int.reduceToNat, Int.reduceLT, Int.reduceLE, Int.reduceNeg, reduceCtorEq, Int.reduceEq, Int.reduceNe]), renL_cl2 (by rw [Nat.zero_mul, fillO_0, pxRep, hN, Nat.mul_comm]) (clPx _), renL_F (by simp -dsimp -implicitDefEqProofs (maxSteps := 1000000) only [go_sem, ↓reduceIte, Nat.reduceAdd, Nat.reduceSub, Nat.reduceMul, Nat.reduceLT, Nat.reduceLeDiff, Nat.reduceEqDiff, Nat.reduceBEq, Nat.reduceBNe, Int.reduceToNat, Int.reduceLT, Int.reduceLE, Int.reduceNeg, reduceCtorEq, Int.reduceEq, Int.reduceNe]), renL_F (by simp -dsimp -implicitDefEqProofs (maxSteps := 1000000) only [go_sem, ↓reduceIte, Nat.reduceAdd, Nat.reduceSub, Nat.reduceMul, Nat.reduceLT, Nat.reduceLeDiff, Nat.reduceEqDiff, Nat.reduceBEq, Nat.reduceBNe, Int.reduceToNat, Int.reduceLT, Int.reduceLE, Int.reduceNeg, reduceCtorEq, Int.reduceEq, Int.reduceNe])⟩
    obtain ⟨j, hj⟩ := j
    simp -dsimp -implicitDefEqProofs (maxSteps := 1000000) only [go_sem, ↓reduceIte, Nat.reduceAdd, Nat.reduceSub, Nat.reduceMul, Nat.reduceLT, Nat.reduceLeDiff, Nat.reduceEqDiff, Nat.reduceBEq, Nat.reduceBNe, Int.reduceToNat, Int.reduceLT, Int.reduceLE, Int.reduceNeg, reduceCtorEq, Int.reduceEq, Int.reduceNe]
    refine ⟨fun hj' => ?_, fun hout => ?_⟩
    · have hjl : j < h := by omega
      have ej := wrA1 (a := j) (by omega)
      refine ⟨{i : Nat // i ≤ w}, fun i => ⟨52, tl [(1, .ptr 0 0 0), (2, .ptr 1 0 0), (3, I 0), (4, .ptr 3 0 0), (5, I j), (17, I h), (18, I j), (22, I w), (23, I i.1)], [(3, ⟨3, [[I (h : Int), I (w : Int), .sl 2 0 N]]⟩), (2, ⟨1, pxC (fillO N (turnF w h p) (fun _ => 0) (turnO w h) (j * w + i.1))⟩), (1, ⟨3, [[I 0, I 0, .v (.slice none 0 0)]]⟩), (0, ⟨3, [[I w, I h, .ro 1 (pxC p)]]⟩)], 4, .nil⟩, fun i => w - i.1,
        ⟨⟨0, by omega⟩, Le.tl (Ls := []) (y := none) [] (by simp -dsimp -implicitDefEqProofs (maxSteps := 1000000) only [go_sem, ↓reduceIte, Nat.reduceAdd, Nat.reduceSub, Nat.reduceMul, Nat.reduceLT, Nat.reduceLeDiff, Nat.reduceEqDiff, Nat.reduceBEq, Nat.reduceBNe, Int.reduceToNat, Int.reduceLT, Int.reduceLE, Int.reduceNeg, reduceCtorEq, Int.reduceEq, Int.reduceNe]) ?_ (by simp) (by simp [sg]) trivial⟩, fun i => ?_⟩
      · simp -dsimp -implicitDefEqProofs (maxSteps := 1000000) only [go_sem, ↓reduceIte, Nat.reduceAdd, Nat.reduceSub, Nat.reduceMul, Nat.reduceLT, Nat.reduceLeDiff, Nat.reduceEqDiff, Nat.reduceBEq, Nat.reduceBNe, Int.reduceToNat, Int.reduceLT, Int.reduceLE, Int.reduceNeg, reduceCtorEq, Int.reduceEq, Int.reduceNe]
        exact ⟨renL_F (by simp -dsimp -implicitDefEqProofs (maxSteps := 1000000) only [go_sem, ↓reduceIte, Nat.reduceAdd, Nat.reduceSub, Nat.reduceMul, Nat.reduceLT, Nat.reduceLeDiff, Nat.reduceEqDiff, Nat.reduceBEq, Nat.reduceBNe, Int.reduceToNat, Int.reduceLT, Int.reduceLE, Int.reduceNeg, reduceCtorEq, Int.reduceEq, Int.reduceNe]), renL_cl2 rfl (clPx _), renL_F (by simp -dsimp -implicitDefEqProofs (maxSteps := 1000000) only [go_sem, ↓reduceIte, Nat.reduceAdd, Nat.reduceSub, Nat.reduceMul, Nat.reduceLT, Nat.reduceLeDiff, Nat.reduceEqDiff, Nat.reduceBEq, Nat.reduceBNe, Int.reduceToNat, Int.reduceLT, Int.reduceLE, Int.reduceNeg, reduceCtorEq, Int.reduceEq, Int.reduceNe]), renL_F (by simp -dsimp -implicitDefEqProofs (maxSteps := 1000000) only [go_sem, ↓reduceIte, Nat.reduceAdd, Nat.reduceSub, Nat.reduceMul, Nat.reduceLT, Nat.reduceLeDiff, Nat.reduceEqDiff, Nat.reduceBEq, Nat.reduceBNe, Int.reduceToNat, Int.reduceLT, Int.reduceLE, Int.reduceNeg, reduceCtorEq, Int.reduceEq, Int.reduceNe])⟩
      obtain ⟨i, hi⟩ := i
      simp -dsimp -implicitDefEqProofs (maxSteps := 1000000) only [go_sem, ↓reduceIte, Nat.reduceAdd, Nat.reduceSub, Nat.reduceMul, Nat.reduceLT, Nat.reduceLeDiff, Nat.reduceEqDiff, Nat.reduceBEq, Nat.reduceBNe, Int.reduceToNat, Int.reduceLT, Int.reduceLE, Int.reduceNeg, reduceCtorEq, Int.reduceEq, Int.reduceNe]
      refine ⟨fun hi' => ?_, fun hout => ?_⟩
      · have hil : i < w := by omega
        have ei := wrA1 (a := i) (by omega)
        have hq := idx_lt (i := h - 1 - j) (j := i) (w := h) (h := w) (by omega) hil
        have hq2 := idx_lt (i := i) (j := j) (w := w) (h := h) hil hjl
        have hN1 : i * h + (h - 1 - j) < N := by rw [hN]; exact hq
        have a1 := wrM (a := i) (b := h) (by omega)
        have a2 := wrA (a := i * h) (b := h) (by omega)
        have a3 := wrS1 (a := i * h + h) (by omega) (by omega)
        have a4 := wrS (a := i * h + h - 1) (b := j) (by omega) (by omega)
        have a5 : i * h + h - 1 - j = i * h + (h - 1 - j) := by omega
        have a6 := wrM (a := j) (b := w) (by rw [Nat.mul_comm w h, ← hN] at hq2; omega)
        have a7 := wrA (a := j * w) (b := i) (by rw [Nat.mul_comm w h, ← hN] at hq2; omega)
        have g1 := getD_some (p := p) (k := j * w + i) (by rw [hlen]; exact hq2)
        have l1 : ((j * w + i : Nat) : Int) < (p.length : Int) := by rw [hlen]; omega
        have l2 : ((i * h + (h - 1 - j) : Nat) : Int) < (N : Int) := by omega
        obtain ⟨v, g2⟩ := fillO_get (f := turnF w h p) (z := fun _ => 0) (ord := turnO w h) (n := j * w + i) hN1
        refine AtCode.draw 23 [([], []), ([0], []), ([], []), ([], []), ([3], []), ([2, 3, 4], []), ([], []), ([6], []), ([2, 3, 4, 5, 6, 7], []), ([2, 3, 4, 5, 6, 7, 8], []), ([], []), ([2, 3, 4, 5, 6, 7, 8, 9, 10], []), ([], []), ([12], []), ([], []), ([], []), ([15], []), ([14, 15, 16], []), ([], []), ([14, 15, 16, 17, 18], []), ([12, 13, 14, 15, 16, 17, 18, 19], []), ([12, 13, 14, 15, 16, 17, 18, 19, 20], []), ([0, 1, 2, 3, 4, 5, 6, 7, 8, 9, 10, 11, 12, 13, 14, 15, 16, 17, 18, 19, 20, 21], []), ([0, 1, 2, 3, 4, 5, 6, 7, 8, 9, 10, 11, 12, 13, 14, 15, 16, 17, 18, 19, 20, 21, 22], [])] (by kernel_rfl) ?_
        simp -dsimp -implicitDefEqProofs (maxSteps := 1000000) only [go_sem, ↓reduceIte, Nat.reduceAdd, Nat.reduceSub, Nat.reduceMul, Nat.reduceLT, Nat.reduceLeDiff, Nat.reduceEqDiff, Nat.reduceBEq, Nat.reduceBNe, Int.reduceToNat, Int.reduceLT, Int.reduceLE, Int.reduceNeg, reduceCtorEq, Int.reduceEq, Int.reduceNe, a1, a2, a3, a4, a5, a6, a7, g1, g2, ei, pxC_len, pxC_get, Int.natCast_nonneg, Int.toNat_natCast, Nat.zero_add]
        refine ⟨l2, ⟨i + 1, by omega⟩, by show w - (i + 1) < w - i; omega, Le.tl (Ls := []) (y := none) [] (by simp -dsimp -implicitDefEqProofs (maxSteps := 1000000) only [go_sem, ↓reduceIte, Nat.reduceAdd, Nat.reduceSub, Nat.reduceMul, Nat.reduceLT, Nat.reduceLeDiff, Nat.reduceEqDiff, Nat.reduceBEq, Nat.reduceBNe, Int.reduceToNat, Int.reduceLT, Int.reduceLE, Int.reduceNeg, reduceCtorEq, Int.reduceEq, Int.reduceNe]) ?_ (by simp) (by simp [sg]) trivial⟩
        simp -dsimp -implicitDefEqProofs (maxSteps := 1000000) only [go_sem, ↓reduceIte, Nat.reduceAdd, Nat.reduceSub, Nat.reduceMul, Nat.reduceLT, Nat.reduceLeDiff, Nat.reduceEqDiff, Nat.reduceBEq, Nat.reduceBNe, Int.reduceToNat, Int.reduceLT, Int.reduceLE, Int.reduceNeg, reduceCtorEq, Int.reduceEq, Int.reduceNe]
        exact ⟨renL_F (by simp -dsimp -implicitDefEqProofs (maxSteps := 1000000) only [go_sem, ↓reduceIte, Nat.reduceAdd, Nat.reduceSub, Nat.reduceMul, Nat.reduceLT, Nat.reduceLeDiff, Nat.reduceEqDiff, Nat.reduceBEq, Nat.reduceBNe, Int.reduceToNat, Int.reduceLT, Int.reduceLE, Int.reduceNeg, reduceCtorEq, Int.reduceEq, Int.reduceNe]), renL_cl2 (fillO_set hN1 (fun k hk => turnO_iff hil hjl k (hN ▸ hk)) (turnF_at hjl)) (clPx _), renL_F (by simp -dsimp -implicitDefEqProofs (maxSteps := 1000000) only [go_sem, ↓reduceIte, Nat.reduceAdd, Nat.reduceSub, Nat.reduceMul, Nat.reduceLT, Nat.reduceLeDiff, Nat.reduceEqDiff, Nat.reduceBEq, Nat.reduceBNe, Int.reduceToNat, Int.reduceLT, Int.reduceLE, Int.reduceNeg, reduceCtorEq, Int.reduceEq, Int.reduceNe]), renL_F (by simp -dsimp -implicitDefEqProofs (maxSteps := 1000000) only [go_sem, ↓reduceIte, Nat.reduceAdd, Nat.reduceSub, Nat.reduceMul, Nat.reduceLT, Nat.reduceLeDiff, Nat.reduceEqDiff, Nat.reduceBEq, Nat.reduceBNe, Int.reduceToNat, Int.reduceLT, Int.reduceLE, Int.reduceNeg, reduceCtorEq, Int.reduceEq, Int.reduceNe])⟩
      · obtain rfl : i = w := by omega
        refine ⟨⟨j + 1, by omega⟩, by show h - (j + 1) < h - j; omega, Le.tl (Ls := []) (y := none) [] (by simp -dsimp -implicitDefEqProofs (maxSteps := 1000000) only [go_sem, ↓reduceIte, Nat.reduceAdd, Nat.reduceSub, Nat.reduceMul, Nat.reduceLT, Nat.reduceLeDiff, Nat.reduceEqDiff, Nat.reduceBEq, Nat.reduceBNe, Int.reduceToNat, Int.reduceLT, Int.reduceLE, Int.reduceNeg, reduceCtorEq, Int.reduceEq, Int.reduceNe, ej]) ?_ (by simp) (by simp [sg]) trivial⟩
        simp -dsimp -implicitDefEqProofs (maxSteps := 1000000) only [go_sem, ↓reduceIte, Nat.reduceAdd, Nat.reduceSub, Nat.reduceMul, Nat.reduceLT, Nat.reduceLeDiff, Nat.reduceEqDiff, Nat.reduceBEq, Nat.reduceBNe, Int.reduceToNat, Int.reduceLT, Int.reduceLE, Int.reduceNeg, reduceCtorEq, Int.reduceEq, Int.reduceNe]
        exact ⟨renL_F (by simp -dsimp -implicitDefEqProofs (maxSteps := 1000000) only [go_sem, ↓reduceIte, Nat.reduceAdd, Nat.reduceSub, Nat.reduceMul, Nat.reduceLT, Nat.reduceLeDiff, Nat.reduceEqDiff, Nat.reduceBEq, Nat.reduceBNe, Int.reduceToNat, Int.reduceLT, Int.reduceLE, Int.reduceNeg, reduceCtorEq, Int.reduceEq, Int.reduceNe]), renL_cl2 (by rw [Nat.succ_mul]) (clPx _), renL_F (by simp -dsimp -implicitDefEqProofs (maxSteps := 1000000) only [go_sem, ↓reduceIte, Nat.reduceAdd, Nat.reduceSub, Nat.reduceMul, Nat.reduceLT, Nat.reduceLeDiff, Nat.reduceEqDiff, Nat.reduceBEq, Nat.reduceBNe, Int.reduceToNat, Int.reduceLT, Int.reduceLE, Int.reduceNeg, reduceCtorEq, Int.reduceEq, Int.reduceNe]), renL_F (by simp -dsimp -implicitDefEqProofs (maxSteps := 1000000) only [go_sem, ↓reduceIte, Nat.reduceAdd, Nat.reduceSub, Nat.reduceMul, Nat.reduceLT, Nat.reduceLeDiff, Nat.reduceEqDiff, Nat.reduceBEq, Nat.reduceBNe, Int.reduceToNat, Int.reduceLT, Int.reduceLE, Int.reduceNeg, reduceCtorEq, Int.reduceEq, Int.reduceNe])⟩
    · obtain rfl : j = h := by omega
      rw [if_pos (by rw [pxC_len, fillO_len]; omega), takePx _ _ (fillO_len _ _ _ _ _), ← hN]
  · have hc : vaB r = false := by simpa using hc
    refine pE hc ?_
    obtain ⟨w, h, p⟩ := r
    refine PFun.intro 400 mixed Tryd.func46 (by kernel_rfl) rfl (by first | exact .v _ | (simp [Cl_v, Cl_t, Cl_g, Cl_fn, Cl_rp, Cl_ro]; done) | (simp [Cl_v, Cl_t, Cl_g, Cl_fn, Cl_rp, Cl_ro, or_imp, forall_and]; done) | (split <;> simp [Cl_v, Cl_t, Cl_g, Cl_fn, Cl_rp, Cl_ro])) (Nat.le_of_ble_eq_true rfl) ?_; rw [Tryd.ntmps46, Tryd.results46]
    simp -dsimp -implicitDefEqProofs (maxSteps := 1000000) only [go_sem, ↓reduceIte, Nat.reduceAdd, Nat.reduceSub, Nat.reduceMul, Nat.reduceLT, Nat.reduceLeDiff, Nat.reduceEqDiff, Nat.reduceBEq, Nat.reduceBNe, Int.reduceToNat, Int.reduceLT, Int.reduceLE, Int.reduceNeg, reduceCtorEq, Int.reduceEq, Int.reduceNe]
    refine AtFn.pure0 hv ?_
    simp -dsimp -implicitDefEqProofs (maxSteps := 1000000) only [go_sem, ↓reduceIte, Nat.reduceAdd, Nat.reduceSub, Nat.reduceMul, Nat.reduceLT, Nat.reduceLeDiff, Nat.reduceEqDiff, Nat.reduceBEq, Nat.reduceBNe, Int.reduceToNat, Int.reduceLT, Int.reduceLE, Int.reduceNeg, reduceCtorEq, Int.reduceEq, Int.reduceNe, hc]
end

section
set_option maxRecDepth 20000
attribute [local go_sem] clPxT
theorem rangeGet {p : List Int} {N : Nat} (h : p.length = N) : (List.range N).map (fun k => p.getD k 0) = p := by
  refine List.ext_getElem? fun k => ?_
  rw [List.getElem?_map]
  by_cases hk : k < N
  · rw [List.getElem?_range hk, getD_some (by omega)]; rfl
  · rw [List.getElem?_eq_none (by simp; omega), List.getElem?_eq_none (by omega)]; rfl
theorem mkR_fill {w h N n : Nat} {g : Nat → Nat → Int} {z : Nat → Int} (hN : N = w * h) (hn : N ≤ n) : mkR w h g = ⟨w, h, fillO N (fun k => g (k % w) (k / w)) z (fun k => k) n⟩ := by
  subst hN
  unfold mkR
  rw [fillO_n]
  intro k hk
  exact .inl (by omega)
theorem id_iff {w i j : Nat} (k : Nat) : k = j * w + i ↔ k = j * w + i := Iff.rfl
theorem at_idx {w i j : Nat} (hi : i < w) : (j * w + i) % w = i ∧ (j * w + i) / w = j := by
  obtain ⟨e1, e2⟩ := (divmod_eq (k := j * w + i) (b := j) hi).1 rfl
  exact ⟨e2, e1⟩
def mirF (w : Nat) (p : List Int) (k : Nat) : Int := px p w (w - 1 - k % w) (k / w)
theorem mirF_at {w i j : Nat} {p : List Int} (hi : i < w) : p.getD (j * w + (w - 1 - i)) 0 = mirF w p (j * w + i) := by
  obtain ⟨x1, x2⟩ := at_idx (j := j) hi
  unfold mirF px
  rw [x1, x2]
theorem mirror47 (r : Ra) : PFun Tryd.prog 47 [RaA r] (RE (mirrorP r)) := by
  have hv := valid27 r
  unfold mirrorP
  by_cases hc : vaB r = true
  · refine pT hc ?_
    obtain ⟨w, h, p, rfl, w1, w2, h1, h2, hlen⟩ := vaR_of hc
    have hp0 := prodN w2 h2
    have hm := copy34 (w : Int) (h : Int) p (by omega)
    obtain ⟨N, hN⟩ : ∃ N, N = w * h := ⟨_, rfl⟩
    rw [← hN] at hp0 hlen
    have hfin : (mkR (w : Int).toNat (h : Int).toNat fun i j => px p (w : Int).toNat ((w : Int).toNat - 1 - i) j) = ⟨w, h, fillO N (mirF w p) (fun k => p.getD k 0) (fun k => k) (h * w)⟩ := mkR_fill hN (by rw [hN, Nat.mul_comm]; exact Nat.le_refl _)
    simp only
    rw [hfin]
    rw [hlen] at hm
    refine PFun.intro 400 mixed Tryd.func47 (by kernel_rfl) rfl (clRE _) (Nat.le_of_ble_eq_true rfl) ?_; rw [Tryd.ntmps47, Tryd.results47]
    simp -dsimp -implicitDefEqProofs (maxSteps := 1000000) only [go_sem, ↓reduceIte, Nat.reduceAdd, Nat.reduceSub, Nat.reduceMul, Nat.reduceLT, Nat.reduceLeDiff, Nat.reduceEqDiff, Nat.reduceBEq, Nat.reduceBNe, Int.reduceToNat, Int.reduceLT, Int.reduceLE, Int.reduceNeg, reduceCtorEq, Int.reduceEq, Int.reduceNe]
    refine AtFn.pure0 hv ?_
    simp -dsimp -implicitDefEqProofs (maxSteps := 1000000) only [go_sem, ↓reduceIte, Nat.reduceAdd, Nat.reduceSub, Nat.reduceMul, Nat.reduceLT, Nat.reduceLeDiff, Nat.reduceEqDiff, Nat.reduceBEq, Nat.reduceBNe, Int.reduceToNat, Int.reduceLT, Int.reduceLE, Int.reduceNeg, reduceCtorEq, Int.reduceEq, Int.reduceNe, hc]
    refine AtFn.newR (.g [I (w : Int), I (h : Int), .sl 2 0 N]) hm (renN3 2 _ _ _) ?_
    simp -dsimp -implicitDefEqProofs (maxSteps := 1000000) only [go_sem, ↓reduceIte, Nat.reduceAdd, Nat.reduceSub, Nat.reduceMul, Nat.reduceLT, Nat.reduceLeDiff, Nat.reduceEqDiff, Nat.reduceBEq, Nat.reduceBNe, Int.reduceToNat, Int.reduceLT, Int.reduceLE, Int.reduceNeg, reduceCtorEq, Int.reduceEq, Int.reduceNe]
    refine ⟨{j : Nat // j ≤ h}, fun j => ⟨49, tl [(1, .ptr 0 0 0), (2, .ptr 1 0 0), (3, I 0), (4, .ptr 3 0 0), (14, I h), (15, I j.1)], [(3, ⟨3, [[I (w : Int), I (h : Int), .sl 2 0 N]]⟩), (2, ⟨1, pxC (fillO N (mirF w p) (fun k => p.getD k 0) (fun k => k) (j.1 * w))⟩), (1, ⟨3, [[I 0, I 0, .v (.slice none 0 0)]]⟩), (0, ⟨3, [[I w, I h, .ro 1 (pxC p)]]⟩)], 4, .nil⟩, fun j => h - j.1,
      ⟨⟨0, by omega⟩, Le.tl (Ls := []) (y := none) [] (by simp -dsimp -implicitDefEqProofs (maxSteps := 1000000) only [go_sem, ↓reduceIte, Nat.reduceAdd, Nat.reduceSub, Nat.reduceMul, Nat.reduceLT, Nat.reduceLeDiff, Nat.reduceEqDiff, Nat.reduceBEq, Nat.reduceBNe, Int.reduceToNat, Int.reduceLT, Int.reduceLE, Int.reduceNeg, reduceCtorEq, Int.reduceEq, Int.reduceNe]) ?_ (by simp) (by simp [sg]) trivial⟩, fun j => ?_⟩
    · simp -dsimp -implicitDefEqProofs (maxSteps := 1000000) only [go_sem, ↓reduceIte, Nat.reduceAdd, Nat.reduceSub, Nat.reduceMul, Nat.reduceLT, Nat.reduceLeDiff, Nat.reduceEqDiff, Nat.reduceBEq, Nat.reduceBNe, Int.reduceToNat, Int.reduceLT, Int.reduceLE, Int.reduceNeg, reduceCtorEq, Int.reduceEq, Int.reduceNe]
      exact ⟨renL_F (by simp -dsimp -implicitDefEqProofs (maxSteps := 1000000) only [go_sem, ↓reduceIte, Nat.reduceAdd, Nat.reduceSub, Nat.reduceMul, Nat.reduceLT, Nat.reduceLeDiff, Nat.reduceEqDiff, Nat.reduceBEq, Nat.reduceBNe, Int.reduceToNat, Int.reduceLT, Int.reduceLE, Int.reduceNeg, reduceCtorEq, Int.reduceEq, Int.reduceNe]), renL_cl2 (by rw [Nat.zero_mul, fillO_0]; rw [rangeGet hlen]) (clPx _), renL_F (by simp -dsimp -implicitDefEqProofs (maxSteps := 1000000) only [go_sem, ↓reduceIte, Nat.reduceAdd, Nat.reduceSub, Nat.reduceMul, Nat.reduceLT, Nat.reduceLeDiff, Nat.reduceEqDiff, Nat.reduceBEq, Nat.reduceBNe, Int.reduceToNat, Int.reduceLT, Int.reduceLE, Int.reduceNeg, reduceCtorEq, Int.reduceEq, Int.reduceNe]), renL_F (by simp -dsimp -implicitDefEqProofs (maxSteps := 1000000) only [go_sem, ↓reduceIte, Nat.reduceAdd, Nat.reduceSub, Nat.reduceMul, Nat.reduceLT, Nat.reduceLeDiff, Nat.reduceEqDiff, Nat.reduceBEq, Nat.reduceBNe, Int.reduceToNat, Int.reduceLT, Int.reduceLE, Int.reduceNeg, reduceCtorEq, Int.reduceEq, Int.reduceNe])⟩
    obtain ⟨j, hj⟩ := j
    simp -dsimp -implicitDefEqProofs (maxSteps := 1000000) only [go_sem, ↓reduceIte, Nat.reduceAdd, Nat.reduceSub, Nat.reduceMul, Nat.reduceLT, Nat.reduceLeDiff, Nat.reduceEqDiff, Nat.reduceBEq, Nat.reduceBNe, Int.reduceToNat, Int.reduceLT, Int.reduceLE, Int.reduceNeg, reduceCtorEq, Int.reduceEq, Int.reduceNe]
    refine ⟨fun hj' => ?_, fun hout => ?_⟩
    rotate_left
    · obtain rfl : j = h := by omega
      rw [if_pos (by rw [pxC_len, fillO_len]; omega), takePx _ _ (fillO_len _ _ _ _ _)]
    have hjl : j < h := by omega
    have ej := wrA1 (a := j) (by omega)
    refine ⟨{i : Nat // i ≤ w}, fun i => ⟨49, tl [(1, .ptr 0 0 0), (2, .ptr 1 0 0), (3, I 0), (4, .ptr 3 0 0), (14, I h), (15, I j), (5, I j), (19, I w), (20, I i.1)], [(3, ⟨3, [[I (w : Int), I (h : Int), .sl 2 0 N]]⟩), (2, ⟨1, pxC (fillO N (mirF w p) (fun k => p.getD k 0) (fun k => k) (j * w + i.1))⟩), (1, ⟨3, [[I 0, I 0, .v (.slice none 0 0)]]⟩), (0, ⟨3, [[I w, I h, .ro 1 (pxC p)]]⟩)], 4, .nil⟩, fun i => w - i.1,
      ⟨⟨0, by omega⟩, Le.tl (Ls := []) (y := none) [] (by simp -dsimp -implicitDefEqProofs (maxSteps := 1000000) only [go_sem, ↓reduceIte, Nat.reduceAdd, Nat.reduceSub, Nat.reduceMul, Nat.reduceLT, Nat.reduceLeDiff, Nat.reduceEqDiff, Nat.reduceBEq, Nat.reduceBNe, Int.reduceToNat, Int.reduceLT, Int.reduceLE, Int.reduceNeg, reduceCtorEq, Int.reduceEq, Int.reduceNe]) ?_ (by simp) (by simp [sg]) trivial⟩, fun i => ?_⟩
    · simp -dsimp -implicitDefEqProofs (maxSteps := 1000000) only [go_sem, ↓reduceIte, Nat.reduceAdd, Nat.reduceSub, Nat.reduceMul, Nat.reduceLT, Nat.reduceLeDiff, Nat.reduceEqDiff, Nat.reduceBEq, Nat.reduceBNe, Int.reduceToNat, Int.reduceLT, Int.reduceLE, Int.reduceNeg, reduceCtorEq, Int.reduceEq, Int.reduceNe]
      exact ⟨renL_F (by simp -dsimp -implicitDefEqProofs (maxSteps := 1000000) only [go_sem, ↓reduceIte, Nat.reduceAdd, Nat.reduceSub, Nat.reduceMul, Nat.reduceLT, Nat.reduceLeDiff, Nat.reduceEqDiff, Nat.reduceBEq, Nat.reduceBNe, Int.reduceToNat, Int.reduceLT, Int.reduceLE, Int.reduceNeg, reduceCtorEq, Int.reduceEq, Int.reduceNe]), renL_cl2 rfl (clPx _), renL_F (by simp -dsimp -implicitDefEqProofs (maxSteps := 1000000) only [go_sem, ↓reduceIte, Nat.reduceAdd, Nat.reduceSub, Nat.reduceMul, Nat.reduceLT, Nat.reduceLeDiff, Nat.reduceEqDiff, Nat.reduceBEq, Nat.reduceBNe, Int.reduceToNat, Int.reduceLT, Int.reduceLE, Int.reduceNeg, reduceCtorEq, Int.reduceEq, Int.reduceNe]), renL_F (by simp -dsimp -implicitDefEqProofs (maxSteps := 1000000) only [go_sem, ↓reduceIte, Nat.reduceAdd, Nat.reduceSub, Nat.reduceMul, Nat.reduceLT, Nat.reduceLeDiff, Nat.reduceEqDiff, Nat.reduceBEq, Nat.reduceBNe, Int.reduceToNat, Int.reduceLT, Int.reduceLE, Int.reduceNeg, reduceCtorEq, Int.reduceEq, Int.reduceNe])⟩
    obtain ⟨i, hi⟩ := i
    simp -dsimp -implicitDefEqProofs (maxSteps := 1000000) only [go_sem, ↓reduceIte, Nat.reduceAdd, Nat.reduceSub, Nat.reduceMul, Nat.reduceLT, Nat.reduceLeDiff, Nat.reduceEqDiff, Nat.reduceBEq, Nat.reduceBNe, Int.reduceToNat, Int.reduceLT, Int.reduceLE, Int.reduceNeg, reduceCtorEq, Int.reduceEq, Int.reduceNe]
    refine ⟨fun hi' => ?_, fun hout => ?_⟩
    rotate_left
    · obtain rfl : i = w := by omega
      refine ⟨⟨j + 1, by omega⟩, by show h - (j + 1) < h - j; omega, Le.tl (Ls := []) (y := none) [] (by simp -dsimp -implicitDefEqProofs (maxSteps := 1000000) only [go_sem, ↓reduceIte, Nat.reduceAdd, Nat.reduceSub, Nat.reduceMul, Nat.reduceLT, Nat.reduceLeDiff, Nat.reduceEqDiff, Nat.reduceBEq, Nat.reduceBNe, Int.reduceToNat, Int.reduceLT, Int.reduceLE, Int.reduceNeg, reduceCtorEq, Int.reduceEq, Int.reduceNe, ej]) ?_ (by simp) (by simp [sg]) trivial⟩
      simp -dsimp -implicitDefEqProofs (maxSteps := 1000000) only [go_sem, ↓reduceIte, Nat.reduceAdd, Nat.reduceSub, Nat.reduceMul, Nat.reduceLT, Nat.reduceLeDiff, Nat.reduceEqDiff, Nat.reduceBEq, Nat.reduceBNe, Int.reduceToNat, Int.reduceLT, Int.reduceLE, Int.reduceNeg, reduceCtorEq, Int.reduceEq, Int.reduceNe]
      exact ⟨renL_F (by simp -dsimp -implicitDefEqProofs (maxSteps := 1000000) only [go_sem, ↓reduceIte, Nat.reduceAdd, Nat.reduceSub, Nat.reduceMul, Nat.reduceLT, Nat.reduceLeDiff, Nat.reduceEqDiff, Nat.reduceBEq, Nat.reduceBNe, Int.reduceToNat, Int.reduceLT, Int.reduceLE, Int.reduceNeg, reduceCtorEq, Int.reduceEq, Int.reduceNe]), renL_cl2 (by rw [Nat.succ_mul]) (clPx _), renL_F (by simp -dsimp -implicitDefEqProofs (maxSteps := 1000000) only [go_sem, ↓reduceIte, Nat.reduceAdd, Nat.reduceSub, Nat.reduceMul, Nat.reduceLT, Nat.reduceLeDiff, Nat.reduceEqDiff, Nat.reduceBEq, Nat.reduceBNe, Int.reduceToNat, Int.reduceLT, Int.reduceLE, Int.reduceNeg, reduceCtorEq, Int.reduceEq, Int.reduceNe]), renL_F (by simp -dsimp -implicitDefEqProofs (maxSteps := 1000000) only [go_sem, ↓reduceIte, Nat.reduceAdd, Nat.reduceSub, Nat.reduceMul, Nat.reduceLT, Nat.reduceLeDiff, Nat.reduceEqDiff, Nat.reduceBEq, Nat.reduceBNe, Int.reduceToNat, Int.reduceLT, Int.reduceLE, Int.reduceNeg, reduceCtorEq, Int.reduceEq, Int.reduceNe])⟩
    have hil : i < w := by omega
    have ei := wrA1 (a := i) (by omega)
    have hq := idx_lt (i := i) (j := j) (w := w) (h := h) hil hjl
    have hN1 : j * w + i < N := by rw [hN]; exact hq
    have l2 : ((j * w + i : Nat) : Int) < (N : Int) := by omega
    have b1 := wrM (a := j) (b := w) (by omega)
    have b2 := wrA (a := j * w) (b := i) (by omega)
    obtain ⟨x1, x2⟩ := at_idx (j := j) hil
    have a3 := wrA (a := j * w) (b := w) (by omega)
    have a4 := wrS1 (a := j * w + w) (by omega) (by omega)
    have a5 := wrS (a := j * w + w - 1) (b := i) (by omega) (by omega)
    have a6 : j * w + w - 1 - i = j * w + (w - 1 - i) := by omega
    have hq2 := idx_lt (i := w - 1 - i) (j := j) (w := w) (h := h) (by omega) hjl
    have g1 := getD_some (p := p) (k := j * w + (w - 1 - i)) (by rw [hlen, hN]; exact hq2)
    have l1 : ((j * w + (w - 1 - i) : Nat) : Int) < (p.length : Int) := by rw [hlen, hN]; omega
    obtain ⟨v, g2⟩ := fillO_get (f := mirF w p) (z := fun k => p.getD k 0) (ord := fun k => k) (n := j * w + i) hN1
    refine AtCode.draw 23 [([], []), ([0], []), ([], []), ([], []), ([3], []), ([2, 3, 4], []), ([], []), ([2, 3, 4, 5, 6], []), ([], []), ([8], []), ([], []), ([], []), ([11], []), ([10, 11, 12], []), ([], []), ([14], []), ([10, 11, 12, 13, 14, 15], []), ([10, 11, 12, 13, 14, 15, 16], []), ([], []), ([10, 11, 12, 13, 14, 15, 16, 17, 18], []), ([8, 9, 10, 11, 12, 13, 14, 15, 16, 17, 18, 19], []), ([8, 9, 10, 11, 12, 13, 14, 15, 16, 17, 18, 19, 20], []), ([0, 1, 2, 3, 4, 5, 6, 7, 8, 9, 10, 11, 12, 13, 14, 15, 16, 17, 18, 19, 20, 21], []), ([0, 1, 2, 3, 4, 5, 6, 7, 8, 9, 10, 11, 12, 13, 14, 15, 16, 17, 18, 19, 20, 21, 22], [])] (by kernel_rfl) ?_
    simp -dsimp -implicitDefEqProofs (maxSteps := 1000000) only [go_sem, ↓reduceIte, Nat.reduceAdd, Nat.reduceSub, Nat.reduceMul, Nat.reduceLT, Nat.reduceLeDiff, Nat.reduceEqDiff, Nat.reduceBEq, Nat.reduceBNe, Int.reduceToNat, Int.reduceLT, Int.reduceLE, Int.reduceNeg, reduceCtorEq, Int.reduceEq, Int.reduceNe, b1, b2, a3, a4, a5, a6, g1, g2, ei, pxC_len, pxC_get, Int.natCast_nonneg, Int.toNat_natCast, Nat.zero_add]
    refine ⟨l2, ⟨i + 1, by omega⟩, by show w - (i + 1) < w - i; omega, Le.tl (Ls := []) (y := none) [] (by simp -dsimp -implicitDefEqProofs (maxSteps := 1000000) only [go_sem, ↓reduceIte, Nat.reduceAdd, Nat.reduceSub, Nat.reduceMul, Nat.reduceLT, Nat.reduceLeDiff, Nat.reduceEqDiff, Nat.reduceBEq, Nat.reduceBNe, Int.reduceToNat, Int.reduceLT, Int.reduceLE, Int.reduceNeg, reduceCtorEq, Int.reduceEq, Int.reduceNe, ei]) ?_ (by simp) (by simp [sg]) trivial⟩
    simp -dsimp -implicitDefEqProofs (maxSteps := 1000000) only [go_sem, ↓reduceIte, Nat.reduceAdd, Nat.reduceSub, Nat.reduceMul, Nat.reduceLT, Nat.reduceLeDiff, Nat.reduceEqDiff, Nat.reduceBEq, Nat.reduceBNe, Int.reduceToNat, Int.reduceLT, Int.reduceLE, Int.reduceNeg, reduceCtorEq, Int.reduceEq, Int.reduceNe]
    exact ⟨renL_F (by simp -dsimp -implicitDefEqProofs (maxSteps := 1000000) only [go_sem, ↓reduceIte, Nat.reduceAdd, Nat.reduceSub, Nat.reduceMul, Nat.reduceLT, Nat.reduceLeDiff, Nat.reduceEqDiff, Nat.reduceBEq, Nat.reduceBNe, Int.reduceToNat, Int.reduceLT, Int.reduceLE, Int.reduceNeg, reduceCtorEq, Int.reduceEq, Int.reduceNe]), renL_cl2 (fillO_set hN1 (fun k _ => id_iff k) (mirF_at hil)) (clPx _), renL_F (by simp -dsimp -implicitDefEqProofs (maxSteps := 1000000) only [go_sem, ↓reduceIte, Nat.reduceAdd, Nat.reduceSub, Nat.reduceMul, Nat.reduceLT, Nat.reduceLeDiff, Nat.reduceEqDiff, Nat.reduceBEq, Nat.reduceBNe, Int.reduceToNat, Int.reduceLT, Int.reduceLE, Int.reduceNeg, reduceCtorEq, Int.reduceEq, Int.reduceNe]), renL_F (by simp -dsimp -implicitDefEqProofs (maxSteps := 1000000) only [go_sem, ↓reduceIte, Nat.reduceAdd, Nat.reduceSub, Nat.reduceMul, Nat.reduceLT, Nat.reduceLeDiff, Nat.reduceEqDiff, Nat.reduceBEq, Nat.reduceBNe, Int.reduceToNat, Int.reduceLT, Int.reduceLE, Int.reduceNeg, reduceCtorEq, Int.reduceEq, Int.reduceNe])⟩
  · have hc : vaB r = false := by simpa using hc
    refine pE hc ?_
    obtain ⟨w, h, p⟩ := r
    refine PFun.intro 400 mixed Tryd.func47 (by kernel_rfl) rfl (by first | exact .v _ | (simp [Cl_v, Cl_t, Cl_g, Cl_fn, Cl_rp, Cl_ro]; done) | (simp [Cl_v, Cl_t, Cl_g, Cl_fn, Cl_rp, Cl_ro, or_imp, forall_and]; done) | (split <;> simp [Cl_v, Cl_t, Cl_g, Cl_fn, Cl_rp, Cl_ro])) (Nat.le_of_ble_eq_true rfl) ?_; rw [Tryd.ntmps47, Tryd.results47]
    simp -dsimp -implicitDefEqProofs (maxSteps := 1000000) only [go_sem, ↓reduceIte, Nat.reduceAdd, Nat.reduceSub, Nat.reduceMul, Nat.reduceLT, Nat.reduceLeDiff, Nat.reduceEqDiff, Nat.reduceBEq, Nat.reduceBNe, Int.reduceToNat, Int.reduceLT, Int.reduceLE, Int.reduceNeg, reduceCtorEq, Int.reduceEq, Int.reduceNe]
    refine AtFn.pure0 hv ?_
    simp -dsimp -implicitDefEqProofs (maxSteps := 1000000) only [go_sem, ↓reduceIte, Nat.reduceAdd, Nat.reduceSub, Nat.reduceMul, Nat.reduceLT, Nat.reduceLeDiff, Nat.reduceEqDiff, Nat.reduceBEq, Nat.reduceBNe, Int.reduceToNat, Int.reduceLT, Int.reduceLE, Int.reduceNeg, reduceCtorEq, Int.reduceEq, Int.reduceNe, hc]
def invF (p : List Int) (k : Nat) : Int := IntKind.u8.wrap (255 - p.getD k 0)
theorem invert48 (r : Ra) : PFun Tryd.prog 48 [RaA r] (RE (invertP r)) := by
  have hv := valid27 r
  unfold invertP
  by_cases hc : vaB r = true
  · refine pT hc ?_
    obtain ⟨w, h, p, rfl, w1, w2, h1, h2, hlen⟩ := vaR_of hc
    have hp0 := prodN w2 h2
    have hm := copy34 (w : Int) (h : Int) p (by omega)
    obtain ⟨N, hN⟩ : ∃ N, N = w * h := ⟨_, rfl⟩
    rw [← hN] at hp0 hlen
    have hfin : (mkR (w : Int).toNat (h : Int).toNat fun i j => IntKind.u8.wrap (255 - px p (w : Int).toNat i j)) = ⟨w, h, fillO N (invF p) (fun k => p.getD k 0) (fun k => k) N⟩ := by
      show mkR w h (fun i j => IntKind.u8.wrap (255 - px p w i j)) = _
      rw [mkR_fill (z := fun k => p.getD k 0) hN (Nat.le_refl _)]
      congr 2
      funext k
      unfold invF px
      rw [Nat.div_add_mod' k w]
    simp only
    rw [hfin]
    rw [hlen] at hm
    refine PFun.intro 400 mixed Tryd.func48 (by kernel_rfl) rfl (clRE _) (Nat.le_of_ble_eq_true rfl) ?_; rw [Tryd.ntmps48, Tryd.results48]
    simp -dsimp -implicitDefEqProofs (maxSteps := 1000000) only [go_sem, ↓reduceIte, Nat.reduceAdd, Nat.reduceSub, Nat.reduceMul, Nat.reduceLT, Nat.reduceLeDiff, Nat.reduceEqDiff, Nat.reduceBEq, Nat.reduceBNe, Int.reduceToNat, Int.reduceLT, Int.reduceLE, Int.reduceNeg, reduceCtorEq, Int.reduceEq, Int.reduceNe]
    refine AtFn.pure0 hv ?_
    simp -dsimp -implicitDefEqProofs (maxSteps := 1000000) only [go_sem, ↓reduceIte, Nat.reduceAdd, Nat.reduceSub, Nat.reduceMul, Nat.reduceLT, Nat.reduceLeDiff, Nat.reduceEqDiff, Nat.reduceBEq, Nat.reduceBNe, Int.reduceToNat, Int.reduceLT, Int.reduceLE, Int.reduceNeg, reduceCtorEq, Int.reduceEq, Int.reduceNe, hc]
    refine AtFn.newR (.g [I (w : Int), I (h : Int), .sl 2 0 N]) hm (renN3 2 _ _ _) ?_
    simp -dsimp -implicitDefEqProofs (maxSteps := 1000000) only [go_sem, ↓reduceIte, Nat.reduceAdd, Nat.reduceSub, Nat.reduceMul, Nat.reduceLT, Nat.reduceLeDiff, Nat.reduceEqDiff, Nat.reduceBEq, Nat.reduceBNe, Int.reduceToNat, Int.reduceLT, Int.reduceLE, Int.reduceNeg, reduceCtorEq, Int.reduceEq, Int.reduceNe, pxC_len, hlen]
    refine ⟨{i : Nat // i ≤ N}, fun i => ⟨29, tl [(1, .ptr 0 0 0), (2, .ptr 1 0 0), (3, I 0), (4, .ptr 3 0 0), (14, .ro 1 (pxC p)), (15, I N), (16, I i.1)], [(3, ⟨3, [[I (w : Int), I (h : Int), .sl 2 0 N]]⟩), (2, ⟨1, pxC (fillO N (invF p) (fun k => p.getD k 0) (fun k => k) i.1)⟩), (1, ⟨3, [[I 0, I 0, .v (.slice none 0 0)]]⟩), (0, ⟨3, [[I w, I h, .ro 1 (pxC p)]]⟩)], 4, .nil⟩, fun i => N - i.1,
      ⟨⟨0, by omega⟩, Le.tl (Ls := []) (y := none) [] (by simp -dsimp -implicitDefEqProofs (maxSteps := 1000000) only [go_sem, ↓reduceIte, Nat.reduceAdd, Nat.reduceSub, Nat.reduceMul, Nat.reduceLT, Nat.reduceLeDiff, Nat.reduceEqDiff, Nat.reduceBEq, Nat.reduceBNe, Int.reduceToNat, Int.reduceLT, Int.reduceLE, Int.reduceNeg, reduceCtorEq, Int.reduceEq, Int.reduceNe]) ?_ (by simp) (by simp [sg]) trivial⟩, fun i => ?_⟩
    · simp -dsimp -implicitDefEqProofs (maxSteps := 1000000) only [go_sem, ↓reduceIte, Nat.reduceAdd, Nat.reduceSub, Nat.reduceMul, Nat.reduceLT, Nat.reduceLeDiff, Nat.reduceEqDiff, Nat.reduceBEq, Nat.reduceBNe, Int.reduceToNat, Int.reduceLT, Int.reduceLE, Int.reduceNeg, reduceCtorEq, Int.reduceEq, Int.reduceNe]
      exact ⟨renL_F (by simp -dsimp -implicitDefEqProofs (maxSteps := 1000000) only [go_sem, ↓reduceIte, Nat.reduceAdd, Nat.reduceSub, Nat.reduceMul, Nat.reduceLT, Nat.reduceLeDiff, Nat.reduceEqDiff, Nat.reduceBEq, Nat.reduceBNe, Int.reduceToNat, Int.reduceLT, Int.reduceLE, Int.reduceNeg, reduceCtorEq, Int.reduceEq, Int.reduceNe]), renL_cl2 (by rw [fillO_0, rangeGet hlen]) (clPx _), renL_F (by simp -dsimp -implicitDefEqProofs (maxSteps := 1000000) only [go_sem, ↓reduceIte, Nat.reduceAdd, Nat.reduceSub, Nat.reduceMul, Nat.reduceLT, Nat.reduceLeDiff, Nat.reduceEqDiff, Nat.reduceBEq, Nat.reduceBNe, Int.reduceToNat, Int.reduceLT, Int.reduceLE, Int.reduceNeg, reduceCtorEq, Int.reduceEq, Int.reduceNe]), renL_F (by simp -dsimp -implicitDefEqProofs (maxSteps := 1000000) only [go_sem, ↓reduceIte, Nat.reduceAdd, Nat.reduceSub, Nat.reduceMul, Nat.reduceLT, Nat.reduceLeDiff, Nat.reduceEqDiff, Nat.reduceBEq, Nat.reduceBNe, Int.reduceToNat, Int.reduceLT, Int.reduceLE, Int.reduceNeg, reduceCtorEq, Int.reduceEq, Int.reduceNe])⟩
    obtain ⟨i, hi⟩ := i
    simp -dsimp -implicitDefEqProofs (maxSteps := 1000000) only [go_sem, ↓reduceIte, Nat.reduceAdd, Nat.reduceSub, Nat.reduceMul, Nat.reduceLT, Nat.reduceLeDiff, Nat.reduceEqDiff, Nat.reduceBEq, Nat.reduceBNe, Int.reduceToNat, Int.reduceLT, Int.reduceLE, Int.reduceNeg, reduceCtorEq, Int.reduceEq, Int.reduceNe]
    refine ⟨fun hi' => ?_, fun hout => ?_⟩
    · have hil : i < N := by omega
      have ei := wrA1 (a := i) (by omega)
      have g1 := getD_some (p := p) (k := i) (by omega)
      have l1 : (i : Int) < (p.length : Int) := by omega
      obtain ⟨v, g2⟩ := fillO_get (f := invF p) (z := fun k => p.getD k 0) (ord := fun k => k) (n := i) hil
      simp -dsimp -implicitDefEqProofs (maxSteps := 1000000) only [go_sem, ↓reduceIte, Nat.reduceAdd, Nat.reduceSub, Nat.reduceMul, Nat.reduceLT, Nat.reduceLeDiff, Nat.reduceEqDiff, Nat.reduceBEq, Nat.reduceBNe, Int.reduceToNat, Int.reduceLT, Int.reduceLE, Int.reduceNeg, reduceCtorEq, Int.reduceEq, Int.reduceNe, g1, g2, ei, pxC_len, pxC_get, Int.natCast_nonneg, Int.toNat_natCast, Nat.zero_add, hlen]
      refine ⟨hi', ⟨i + 1, by omega⟩, by show N - (i + 1) < N - i; omega, Le.tl (Ls := []) (y := none) [] (by simp -dsimp -implicitDefEqProofs (maxSteps := 1000000) only [go_sem, ↓reduceIte, Nat.reduceAdd, Nat.reduceSub, Nat.reduceMul, Nat.reduceLT, Nat.reduceLeDiff, Nat.reduceEqDiff, Nat.reduceBEq, Nat.reduceBNe, Int.reduceToNat, Int.reduceLT, Int.reduceLE, Int.reduceNeg, reduceCtorEq, Int.reduceEq, Int.reduceNe, ei]) ?_ (by simp) (by simp [sg]) trivial⟩
      simp -dsimp -implicitDefEqProofs (maxSteps := 1000000) only [go_sem, ↓reduceIte, Nat.reduceAdd, Nat.reduceSub, Nat.reduceMul, Nat.reduceLT, Nat.reduceLeDiff, Nat.reduceEqDiff, Nat.reduceBEq, Nat.reduceBNe, Int.reduceToNat, Int.reduceLT, Int.reduceLE, Int.reduceNeg, reduceCtorEq, Int.reduceEq, Int.reduceNe]
      exact ⟨renL_F (by simp -dsimp -implicitDefEqProofs (maxSteps := 1000000) only [go_sem, ↓reduceIte, Nat.reduceAdd, Nat.reduceSub, Nat.reduceMul, Nat.reduceLT, Nat.reduceLeDiff, Nat.reduceEqDiff, Nat.reduceBEq, Nat.reduceBNe, Int.reduceToNat, Int.reduceLT, Int.reduceLE, Int.reduceNeg, reduceCtorEq, Int.reduceEq, Int.reduceNe]), renL_cl2 (fillO_set hil (fun k _ => Iff.rfl) rfl) (clPx _), renL_F (by simp -dsimp -implicitDefEqProofs (maxSteps := 1000000) only [go_sem, ↓reduceIte, Nat.reduceAdd, Nat.reduceSub, Nat.reduceMul, Nat.reduceLT, Nat.reduceLeDiff, Nat.reduceEqDiff, Nat.reduceBEq, Nat.reduceBNe, Int.reduceToNat, Int.reduceLT, Int.reduceLE, Int.reduceNeg, reduceCtorEq, Int.reduceEq, Int.reduceNe]), renL_F (by simp -dsimp -implicitDefEqProofs (maxSteps := 1000000) only [go_sem, ↓reduceIte, Nat.reduceAdd, Nat.reduceSub, Nat.reduceMul, Nat.reduceLT, Nat.reduceLeDiff, Nat.reduceEqDiff, Nat.reduceBEq, Nat.reduceBNe, Int.reduceToNat, Int.reduceLT, Int.reduceLE, Int.reduceNeg, reduceCtorEq, Int.reduceEq, Int.reduceNe])⟩
    · obtain rfl : i = N := by omega
      rw [if_pos (by rw [pxC_len, fillO_len]; omega), takePx _ _ (fillO_len _ _ _ _ _)]
  · have hc : vaB r = false := by simpa using hc
    refine pE hc ?_
    obtain ⟨w, h, p⟩ := r
    refine PFun.intro 400 mixed Tryd.func48 (by kernel_rfl) rfl (by first | exact .v _ | (simp [Cl_v, Cl_t, Cl_g, Cl_fn, Cl_rp, Cl_ro]; done) | (simp [Cl_v, Cl_t, Cl_g, Cl_fn, Cl_rp, Cl_ro, or_imp, forall_and]; done) | (split <;> simp [Cl_v, Cl_t, Cl_g, Cl_fn, Cl_rp, Cl_ro])) (Nat.le_of_ble_eq_true rfl) ?_; rw [Tryd.ntmps48, Tryd.results48]
    simp -dsimp -implicitDefEqProofs (maxSteps := 1000000) only [go_sem, ↓reduceIte, Nat.reduceAdd, Nat.reduceSub, Nat.reduceMul, Nat.reduceLT, Nat.reduceLeDiff, Nat.reduceEqDiff, Nat.reduceBEq, Nat.reduceBNe, Int.reduceToNat, Int.reduceLT, Int.reduceLE, Int.reduceNeg, reduceCtorEq, Int.reduceEq, Int.reduceNe]
    refine AtFn.pure0 hv ?_
    simp -dsimp -implicitDefEqProofs (maxSteps := 1000000) only [go_sem, ↓reduceIte, Nat.reduceAdd, Nat.reduceSub, Nat.reduceMul, Nat.reduceLT, Nat.reduceLeDiff, Nat.reduceEqDiff, Nat.reduceBEq, Nat.reduceBNe, Int.reduceToNat, Int.reduceLT, Int.reduceLE, Int.reduceNeg, reduceCtorEq, Int.reduceEq, Int.reduceNe, hc]
def shiF (r : Ra) (dx dy n : Int) (k : Nat) : Int := shF r dx dy n (k % r.w.toNat) (k / r.w.toNat)
theorem neg_wr {w : Nat} (hw : w ≤ 256) : wr (0 - (w : Int)) = -(w : Int) := by rw [wr_in] <;> omega
theorem shift49 (r : Ra) (dx dy n : Int) : PFun Tryd.prog 49 [RaA r, I dx, I dy, I n] (RE (shiftP r dx dy n)) := by
  have hv := valid27 r
  unfold shiftP
  by_cases hc : (vaB r && inkB n) = true
  · refine pT hc ?_
    simp only [Bool.and_eq_true] at hc
    obtain ⟨hc, hn⟩ := hc
    obtain ⟨w, h, p, rfl, w1, w2, h1, h2, hlen⟩ := vaR_of hc
    have hp0 := prodN w2 h2
    have hm := made59 w h (by omega) n
    rw [u8_ink hn] at hm
    obtain ⟨N, hN⟩ : ∃ N, N = w * h := ⟨_, rfl⟩
    rw [← hN] at hp0 hlen hm
    have nw := neg_wr w2
    have nh := neg_wr h2
    by_cases ho : dx ≤ -(w : Int) ∨ (w : Int) ≤ dx ∨ dy ≤ -(h : Int) ∨ (h : Int) ≤ dy
    · have hfin : mkR (w : Int).toNat (h : Int).toNat (shF ⟨w, h, p⟩ dx dy n) = ⟨w, h, List.replicate N n⟩ := by
        show mkR w h _ = _
        rw [mkR_congr (g := fun _ _ => n)]
        · unfold mkR; rw [pxRep, hN]
        · intro i j hi hj
          unfold shF
          rw [if_neg]
          simp only [hasB, Bool.and_eq_true, decide_eq_true_eq]
          omega
      simp only
      rw [hfin]
      refine PFun.intro 400 mixed Tryd.func49 (by kernel_rfl) rfl (clRE _) (Nat.le_of_ble_eq_true rfl) ?_; rw [Tryd.ntmps49, Tryd.results49]
      simp -dsimp -implicitDefEqProofs (maxSteps := 1000000) only [go_sem, ↓reduceIte, Nat.reduceAdd, Nat.reduceSub, Nat.reduceMul, Nat.reduceLT, Nat.reduceLeDiff, Nat.reduceEqDiff, Nat.reduceBEq, Nat.reduceBNe, Int.reduceToNat, Int.reduceLT, Int.reduceLE, Int.reduceNeg, reduceCtorEq, Int.reduceEq, Int.reduceNe]
      refine AtFn.pure0 hv ?_
      simp -dsimp -implicitDefEqProofs (maxSteps := 1000000) only [go_sem, ↓reduceIte, Nat.reduceAdd, Nat.reduceSub, Nat.reduceMul, Nat.reduceLT, Nat.reduceLeDiff, Nat.reduceEqDiff, Nat.reduceBEq, Nat.reduceBNe, Int.reduceToNat, Int.reduceLT, Int.reduceLE, Int.reduceNeg, reduceCtorEq, Int.reduceEq, Int.reduceNe, hc]
      refine AtFn.pure0 (ink76 _) ?_
      simp -dsimp -implicitDefEqProofs (maxSteps := 1000000) only [go_sem, ↓reduceIte, Nat.reduceAdd, Nat.reduceSub, Nat.reduceMul, Nat.reduceLT, Nat.reduceLeDiff, Nat.reduceEqDiff, Nat.reduceBEq, Nat.reduceBNe, Int.reduceToNat, Int.reduceLT, Int.reduceLE, Int.reduceNeg, reduceCtorEq, Int.reduceEq, Int.reduceNe, hn]
      refine AtFn.newR (.g [I (w : Int), I (h : Int), .sl 2 0 N]) hm (renN3 2 _ _ _) ?_
      by_cases f1 : dx ≤ -(w : Int)
      · simp -dsimp -implicitDefEqProofs (maxSteps := 1000000) only [go_sem, ↓reduceIte, Nat.reduceAdd, Nat.reduceSub, Nat.reduceMul, Nat.reduceLT, Nat.reduceLeDiff, Nat.reduceEqDiff, Nat.reduceBEq, Nat.reduceBNe, Int.reduceToNat, Int.reduceLT, Int.reduceLE, Int.reduceNeg, reduceCtorEq, Int.reduceEq, Int.reduceNe, nw, nh, f1]
        rw [if_pos (by rw [pxC_len, List.length_replicate]; omega), takePx _ _ (List.length_replicate ..)]
      by_cases f2 : (w : Int) ≤ dx
      · simp -dsimp -implicitDefEqProofs (maxSteps := 1000000) only [go_sem, ↓reduceIte, Nat.reduceAdd, Nat.reduceSub, Nat.reduceMul, Nat.reduceLT, Nat.reduceLeDiff, Nat.reduceEqDiff, Nat.reduceBEq, Nat.reduceBNe, Int.reduceToNat, Int.reduceLT, Int.reduceLE, Int.reduceNeg, reduceCtorEq, Int.reduceEq, Int.reduceNe, nw, nh, f1, f2]
        rw [if_pos (by rw [pxC_len, List.length_replicate]; omega), takePx _ _ (List.length_replicate ..)]
      by_cases f3 : dy ≤ -(h : Int)
      · simp -dsimp -implicitDefEqProofs (maxSteps := 1000000) only [go_sem, ↓reduceIte, Nat.reduceAdd, Nat.reduceSub, Nat.reduceMul, Nat.reduceLT, Nat.reduceLeDiff, Nat.reduceEqDiff, Nat.reduceBEq, Nat.reduceBNe, Int.reduceToNat, Int.reduceLT, Int.reduceLE, Int.reduceNeg, reduceCtorEq, Int.reduceEq, Int.reduceNe, nw, nh, f1, f2, f3]
        rw [if_pos (by rw [pxC_len, List.length_replicate]; omega), takePx _ _ (List.length_replicate ..)]
      have f4 : (h : Int) ≤ dy := by omega
      simp -dsimp -implicitDefEqProofs (maxSteps := 1000000) only [go_sem, ↓reduceIte, Nat.reduceAdd, Nat.reduceSub, Nat.reduceMul, Nat.reduceLT, Nat.reduceLeDiff, Nat.reduceEqDiff, Nat.reduceBEq, Nat.reduceBNe, Int.reduceToNat, Int.reduceLT, Int.reduceLE, Int.reduceNeg, reduceCtorEq, Int.reduceEq, Int.reduceNe, nw, nh, f1, f2, f3, f4]
      rw [if_pos (by rw [pxC_len, List.length_replicate]; omega), takePx _ _ (List.length_replicate ..)]
    · have f1 : ¬ dx ≤ -(w : Int) := by omega
      have f2 : ¬ (w : Int) ≤ dx := by omega
      have f3 : ¬ dy ≤ -(h : Int) := by omega
      have f4 : ¬ (h : Int) ≤ dy := by omega
      have hfin : mkR (w : Int).toNat (h : Int).toNat (shF ⟨w, h, p⟩ dx dy n) = ⟨w, h, fillO N (shiF ⟨w, h, p⟩ dx dy n) (fun _ => n) (fun k => k) (h * w)⟩ := mkR_fill hN (by rw [hN, Nat.mul_comm]; exact Nat.le_refl _)
      simp only
      rw [hfin]
      refine PFun.intro 400 mixed Tryd.func49 (by kernel_rfl) rfl (clRE _) (Nat.le_of_ble_eq_true rfl) ?_; rw [Tryd.ntmps49, Tryd.results49]
      simp -dsimp -implicitDefEqProofs (maxSteps := 1000000) only [go_sem, ↓reduceIte, Nat.reduceAdd, Nat.reduceSub, Nat.reduceMul, Nat.reduceLT, Nat.reduceLeDiff, Nat.reduceEqDiff, Nat.reduceBEq, Nat.reduceBNe, Int.reduceToNat, Int.reduceLT, Int.reduceLE, Int.reduceNeg, reduceCtorEq, Int.reduceEq, Int.reduceNe]
      refine AtFn.pure0 hv ?_
      simp -dsimp -implicitDefEqProofs (maxSteps := 1000000) only [go_sem, ↓reduceIte, Nat.reduceAdd, Nat.reduceSub, Nat.reduceMul, Nat.reduceLT, Nat.reduceLeDiff, Nat.reduceEqDiff, Nat.reduceBEq, Nat.reduceBNe, Int.reduceToNat, Int.reduceLT, Int.reduceLE, Int.reduceNeg, reduceCtorEq, Int.reduceEq, Int.reduceNe, hc]
      refine AtFn.pure0 (ink76 _) ?_
      simp -dsimp -implicitDefEqProofs (maxSteps := 1000000) only [go_sem, ↓reduceIte, Nat.reduceAdd, Nat.reduceSub, Nat.reduceMul, Nat.reduceLT, Nat.reduceLeDiff, Nat.reduceEqDiff, Nat.reduceBEq, Nat.reduceBNe, Int.reduceToNat, Int.reduceLT, Int.reduceLE, Int.reduceNeg, reduceCtorEq, Int.reduceEq, Int.reduceNe, hn]
      refine AtFn.newR (.g [I (w : Int), I (h : Int), .sl 2 0 N]) hm (renN3 2 _ _ _) ?_
      simp -dsimp -implicitDefEqProofs (maxSteps := 1000000) only [go_sem, ↓reduceIte, Nat.reduceAdd, Nat.reduceSub, Nat.reduceMul, Nat.reduceLT, Nat.reduceLeDiff, Nat.reduceEqDiff, Nat.reduceBEq, Nat.reduceBNe, Int.reduceToNat, Int.reduceLT, Int.reduceLE, Int.reduceNeg, reduceCtorEq, Int.reduceEq, Int.reduceNe, nw, nh, f1, f2, f3, f4]
      refine ⟨{j : Nat // j ≤ h}, fun j => ⟨97, tl [(1, I dx), (2, I dy), (4, .ptr 0 0 0), (8, .ptr 1 0 0), (9, I 0), (10, .ptr 3 0 0), (54, I h), (55, I j.1)], [(3, ⟨3, [[I (w : Int), I (h : Int), .sl 2 0 N]]⟩), (2, ⟨1, pxC (fillO N (shiF ⟨w, h, p⟩ dx dy n) (fun _ => n) (fun k => k) (j.1 * w))⟩), (1, ⟨3, [[I 0, I 0, .v (.slice none 0 0)]]⟩), (0, ⟨3, [[I w, I h, .ro 1 (pxC p)]]⟩)], 4, .nil⟩, fun j => h - j.1,
        ⟨⟨0, by omega⟩, Le.tl (Ls := []) (y := none) [] (by simp -dsimp -implicitDefEqProofs (maxSteps := 1000000) only [go_sem, ↓reduceIte, Nat.reduceAdd, Nat.reduceSub, Nat.reduceMul, Nat.reduceLT, Nat.reduceLeDiff, Nat.reduceEqDiff, Nat.reduceBEq, Nat.reduceBNe, Int.reduceToNat, Int.reduceLT, Int.reduceLE, Int.reduceNeg, reduceCtorEq, Int.reduceEq, Int.reduceNe]) ?_ (by simp) (by simp [sg]) trivial⟩, fun j => ?_⟩
      · simp -dsimp -implicitDefEqProofs (maxSteps := 1000000) only [go_sem, ↓reduceIte, Nat.reduceAdd, Nat.reduceSub, Nat.reduceMul, Nat.reduceLT, Nat.reduceLeDiff, Nat.reduceEqDiff, Nat.reduceBEq, Nat.reduceBNe, Int.reduceToNat, Int.reduceLT, Int.reduceLE, Int.reduceNeg, reduceCtorEq, Int.reduceEq, Int.reduceNe]
        exact ⟨renL_F (by simp -dsimp -implicitDefEqProofs (maxSteps := 1000000) only [go_sem, ↓reduceIte, Nat.reduceAdd, Nat.reduceSub, Nat.reduceMul, Nat.reduceLT, Nat.reduceLeDiff, Nat.reduceEqDiff, Nat.reduceBEq, Nat.reduceBNe, Int.reduceToNat, Int.reduceLT, Int.reduceLE, Int.reduceNeg, reduceCtorEq, Int.reduceEq, Int.reduceNe]), renL_cl2 (by rw [Nat.zero_mul, fillO_0]; rw [pxRep]) (clPx _), renL_F (by simp -dsimp -implicitDefEqProofs (maxSteps := 1000000) only [go_sem, ↓reduceIte, Nat.reduceAdd, Nat.reduceSub, Nat.reduceMul, Nat.reduceLT, Nat.reduceLeDiff, Nat.reduceEqDiff, Nat.reduceBEq, Nat.reduceBNe, Int.reduceToNat, Int.reduceLT, Int.reduceLE, Int.reduceNeg, reduceCtorEq, Int.reduceEq, Int.reduceNe]), renL_F (by simp -dsimp -implicitDefEqProofs (maxSteps := 1000000) only [go_sem, ↓reduceIte, Nat.reduceAdd, Nat.reduceSub, Nat.reduceMul, Nat.reduceLT, Nat.reduceLeDiff, Nat.reduceEqDiff, Nat.reduceBEq, Nat.reduceBNe, Int.reduceToNat, Int.reduceLT, Int.reduceLE, Int.reduceNeg, reduceCtorEq, Int.reduceEq, Int.reduceNe])⟩
      obtain ⟨j, hj⟩ := j
      simp -dsimp -implicitDefEqProofs (maxSteps := 1000000) only [go_sem, ↓reduceIte, Nat.reduceAdd, Nat.reduceSub, Nat.reduceMul, Nat.reduceLT, Nat.reduceLeDiff, Nat.reduceEqDiff, Nat.reduceBEq, Nat.reduceBNe, Int.reduceToNat, Int.reduceLT, Int.reduceLE, Int.reduceNeg, reduceCtorEq, Int.reduceEq, Int.reduceNe]
      refine ⟨fun hj' => ?_, fun hout => ?_⟩
      rotate_left
      · obtain rfl : j = h := by omega
        rw [if_pos (by rw [pxC_len, fillO_len]; omega), takePx _ _ (fillO_len _ _ _ _ _)]
      have hjl : j < h := by omega
      have ej := wrA1 (a := j) (by omega)
      refine ⟨{i : Nat // i ≤ w}, fun i => ⟨97, tl [(1, I dx), (2, I dy), (4, .ptr 0 0 0), (8, .ptr 1 0 0), (9, I 0), (10, .ptr 3 0 0), (54, I h), (55, I j), (11, I j), (59, I w), (60, I i.1)], [(3, ⟨3, [[I (w : Int), I (h : Int), .sl 2 0 N]]⟩), (2, ⟨1, pxC (fillO N (shiF ⟨w, h, p⟩ dx dy n) (fun _ => n) (fun k => k) (j * w + i.1))⟩), (1, ⟨3, [[I 0, I 0, .v (.slice none 0 0)]]⟩), (0, ⟨3, [[I w, I h, .ro 1 (pxC p)]]⟩)], 4, .nil⟩, fun i => w - i.1,
        ⟨⟨0, by omega⟩, Le.tl (Ls := []) (y := none) [] (by simp -dsimp -implicitDefEqProofs (maxSteps := 1000000) only [go_sem, ↓reduceIte, Nat.reduceAdd, Nat.reduceSub, Nat.reduceMul, Nat.reduceLT, Nat.reduceLeDiff, Nat.reduceEqDiff, Nat.reduceBEq, Nat.reduceBNe, Int.reduceToNat, Int.reduceLT, Int.reduceLE, Int.reduceNeg, reduceCtorEq, Int.reduceEq, Int.reduceNe]) ?_ (by simp) (by simp [sg]) trivial⟩, fun i => ?_⟩
      · simp -dsimp -implicitDefEqProofs (maxSteps := 1000000) only [go_sem, ↓reduceIte, Nat.reduceAdd, Nat.reduceSub, Nat.reduceMul, Nat.reduceLT, Nat.reduceLeDiff, Nat.reduceEqDiff, Nat.reduceBEq, Nat.reduceBNe, Int.reduceToNat, Int.reduceLT, Int.reduceLE, Int.reduceNeg, reduceCtorEq, Int.reduceEq, Int.reduceNe]
        exact ⟨renL_F (by simp -dsimp -implicitDefEqProofs (maxSteps := 1000000) only [go_sem, ↓reduceIte, Nat.reduceAdd, Nat.reduceSub, Nat.reduceMul, Nat.reduceLT, Nat.reduceLeDiff, Nat.reduceEqDiff, Nat.reduceBEq, Nat.reduceBNe, Int.reduceToNat, Int.reduceLT, Int.reduceLE, Int.reduceNeg, reduceCtorEq, Int.reduceEq, Int.reduceNe]), renL_cl2 rfl (clPx _), renL_F (by simp -dsimp -implicitDefEqProofs (maxSteps := 1000000) only [go_sem, ↓reduceIte, Nat.reduceAdd, Nat.reduceSub, Nat.reduceMul, Nat.reduceLT, Nat.reduceLeDiff, Nat.reduceEqDiff, Nat.reduceBEq, Nat.reduceBNe, Int.reduceToNat, Int.reduceLT, Int.reduceLE, Int.reduceNeg, reduceCtorEq, Int.reduceEq, Int.reduceNe]), renL_F (by simp -dsimp -implicitDefEqProofs (maxSteps := 1000000) only [go_sem, ↓reduceIte, Nat.reduceAdd, Nat.reduceSub, Nat.reduceMul, Nat.reduceLT, Nat.reduceLeDiff, Nat.reduceEqDiff, Nat.reduceBEq, Nat.reduceBNe, Int.reduceToNat, Int.reduceLT, Int.reduceLE, Int.reduceNeg, reduceCtorEq, Int.reduceEq, Int.reduceNe])⟩
      obtain ⟨i, hi⟩ := i
      simp -dsimp -implicitDefEqProofs (maxSteps := 1000000) only [go_sem, ↓reduceIte, Nat.reduceAdd, Nat.reduceSub, Nat.reduceMul, Nat.reduceLT, Nat.reduceLeDiff, Nat.reduceEqDiff, Nat.reduceBEq, Nat.reduceBNe, Int.reduceToNat, Int.reduceLT, Int.reduceLE, Int.reduceNeg, reduceCtorEq, Int.reduceEq, Int.reduceNe]
      refine ⟨fun hi' => ?_, fun hout => ?_⟩
      rotate_left
      · obtain rfl : i = w := by omega
        refine ⟨⟨j + 1, by omega⟩, by show h - (j + 1) < h - j; omega, Le.tl (Ls := []) (y := none) [] (by simp -dsimp -implicitDefEqProofs (maxSteps := 1000000) only [go_sem, ↓reduceIte, Nat.reduceAdd, Nat.reduceSub, Nat.reduceMul, Nat.reduceLT, Nat.reduceLeDiff, Nat.reduceEqDiff, Nat.reduceBEq, Nat.reduceBNe, Int.reduceToNat, Int.reduceLT, Int.reduceLE, Int.reduceNeg, reduceCtorEq, Int.reduceEq, Int.reduceNe, ej]) ?_ (by simp) (by simp [sg]) trivial⟩
        simp -dsimp -implicitDefEqProofs (maxSteps := 1000000) only [go_sem, ↓reduceIte, Nat.reduceAdd, Nat.reduceSub, Nat.reduceMul, Nat.reduceLT, Nat.reduceLeDiff, Nat.reduceEqDiff, Nat.reduceBEq, Nat.reduceBNe, Int.reduceToNat, Int.reduceLT, Int.reduceLE, Int.reduceNeg, reduceCtorEq, Int.reduceEq, Int.reduceNe]
        exact ⟨renL_F (by simp -dsimp -implicitDefEqProofs (maxSteps := 1000000) only [go_sem, ↓reduceIte, Nat.reduceAdd, Nat.reduceSub, Nat.reduceMul, Nat.reduceLT, Nat.reduceLeDiff, Nat.reduceEqDiff, Nat.reduceBEq, Nat.reduceBNe, Int.reduceToNat, Int.reduceLT, Int.reduceLE, Int.reduceNeg, reduceCtorEq, Int.reduceEq, Int.reduceNe]), renL_cl2 (by rw [Nat.succ_mul]) (clPx _), renL_F (by simp -dsimp -implicitDefEqProofs (maxSteps := 1000000) only [go_sem, ↓reduceIte, Nat.reduceAdd, Nat.reduceSub, Nat.reduceMul, Nat.reduceLT, Nat.reduceLeDiff, Nat.reduceEqDiff, Nat.reduceBEq, Nat.reduceBNe, Int.reduceToNat, Int.reduceLT, Int.reduceLE, Int.reduceNeg, reduceCtorEq, Int.reduceEq, Int.reduceNe]), renL_F (by simp -dsimp -implicitDefEqProofs (maxSteps := 1000000) only [go_sem, ↓reduceIte, Nat.reduceAdd, Nat.reduceSub, Nat.reduceMul, Nat.reduceLT, Nat.reduceLeDiff, Nat.reduceEqDiff, Nat.reduceBEq, Nat.reduceBNe, Int.reduceToNat, Int.reduceLT, Int.reduceLE, Int.reduceNeg, reduceCtorEq, Int.reduceEq, Int.reduceNe])⟩
      have hil : i < w := by omega
      have ei := wrA1 (a := i) (by omega)
      have hq := idx_lt (i := i) (j := j) (w := w) (h := h) hil hjl
      have hN1 : j * w + i < N := by rw [hN]; exact hq
      have l2 : ((j * w + i : Nat) : Int) < (N : Int) := by omega
      have b1 := wrM (a := j) (b := w) (by omega)
      have b2 := wrA (a := j * w) (b := i) (by omega)
      obtain ⟨x1, x2⟩ := at_idx (j := j) hil
      have e1 : wr ((i : Int) - dx) = (i : Int) - dx := wr_in (by omega) (by omega)
      have e2 : wr ((j : Int) - dy) = (j : Int) - dy := wr_in (by omega) (by omega)
      have hb := has73 ⟨w, h, p⟩ ((i : Int) - dx) ((j : Int) - dy)
      simp -dsimp -implicitDefEqProofs (maxSteps := 1000000) only [go_sem, ↓reduceIte, Nat.reduceAdd, Nat.reduceSub, Nat.reduceMul, Nat.reduceLT, Nat.reduceLeDiff, Nat.reduceEqDiff, Nat.reduceBEq, Nat.reduceBNe, Int.reduceToNat, Int.reduceLT, Int.reduceLE, Int.reduceNeg, reduceCtorEq, Int.reduceEq, Int.reduceNe, e1, e2]
      by_cases hh : hasB ⟨w, h, p⟩ ((i : Int) - dx) ((j : Int) - dy) = true
      · obtain ⟨a, b, ha, hb', ha2, hb2⟩ := has_of hh
        have hil2 := idx_lt (i := a) (j := b) (w := w) (h := h) ha2 hb2
        have g1 := getD_some (p := p) (k := b * w + a) (by rw [hlen, hN]; exact hil2)
        have l1 : ((b * w + a : Nat) : Int) < (p.length : Int) := by rw [hlen, hN]; omega
        have e3 := wrM (a := b) (b := w) (by omega)
        have e4 : wr (((b * w : Nat) : Int) + (i : Int)) = ((b * w + i : Nat) : Int) := wrA (by omega)
        have e5 : wr (((b * w + i : Nat) : Int) - dx) = ((b * w + a : Nat) : Int) := by rw [wr_in] <;> omega
        have e2' := e2.trans hb'
        obtain ⟨v, g2⟩ := fillO_get (f := shiF ⟨w, h, p⟩ dx dy n) (z := fun _ => n) (ord := fun k => k) (n := j * w + i) hN1
        have hval : p.getD (b * w + a) 0 = shiF ⟨w, h, p⟩ dx dy n (j * w + i) := by
          show _ = shF ⟨w, h, p⟩ dx dy n ((j * w + i) % w) ((j * w + i) / w)
          rw [x1, x2]
          unfold shF
          rw [if_pos hh, ha, hb']
          rfl
        refine AtFn.pure0 hb ?_
        simp -dsimp -implicitDefEqProofs (maxSteps := 1000000) only [go_sem, ↓reduceIte, Nat.reduceAdd, Nat.reduceSub, Nat.reduceMul, Nat.reduceLT, Nat.reduceLeDiff, Nat.reduceEqDiff, Nat.reduceBEq, Nat.reduceBNe, Int.reduceToNat, Int.reduceLT, Int.reduceLE, Int.reduceNeg, reduceCtorEq, Int.reduceEq, Int.reduceNe, hh]
        refine AtCode.draw 23 [([], []), ([0], []), ([], []), ([], []), ([3], []), ([2, 3, 4], []), ([], []), ([2, 3, 4, 5, 6], []), ([], []), ([8], []), ([], []), ([], []), ([10, 11], []), ([], []), ([13], []), ([10, 11, 12, 13, 14], []), ([], []), ([10, 11, 12, 13, 14, 15, 16], []), ([], []), ([10, 11, 12, 13, 14, 15, 16, 17, 18], []), ([8, 9, 10, 11, 12, 13, 14, 15, 16, 17, 18, 19], []), ([8, 9, 10, 11, 12, 13, 14, 15, 16, 17, 18, 19, 20], []), ([0, 1, 2, 3, 4, 5, 6, 7, 8, 9, 10, 11, 12, 13, 14, 15, 16, 17, 18, 19, 20, 21], []), ([0, 1, 2, 3, 4, 5, 6, 7, 8, 9, 10, 11, 12, 13, 14, 15, 16, 17, 18, 19, 20, 21, 22], [])] (by kernel_rfl) ?_
        simp -dsimp -implicitDefEqProofs (maxSteps := 1000000) only [go_sem, ↓reduceIte, Nat.reduceAdd, Nat.reduceSub, Nat.reduceMul, Nat.reduceLT, Nat.reduceLeDiff, Nat.reduceEqDiff, Nat.reduceBEq, Nat.reduceBNe, Int.reduceToNat, Int.reduceLT, Int.reduceLE, Int.reduceNeg, reduceCtorEq, Int.reduceEq, Int.reduceNe, b1, b2, e2', e3, e4, e5, g1, g2, ei, pxC_len, pxC_get, Int.natCast_nonneg, Int.toNat_natCast, Nat.zero_add]
        refine ⟨l2, ⟨i + 1, by omega⟩, by show w - (i + 1) < w - i; omega, Le.tl (Ls := []) (y := none) [] (by simp -dsimp -implicitDefEqProofs (maxSteps := 1000000) only [go_sem, ↓reduceIte, Nat.reduceAdd, Nat.reduceSub, Nat.reduceMul, Nat.reduceLT, Nat.reduceLeDiff, Nat.reduceEqDiff, Nat.reduceBEq, Nat.reduceBNe, Int.reduceToNat, Int.reduceLT, Int.reduceLE, Int.reduceNeg, reduceCtorEq, Int.reduceEq, Int.reduceNe, ei]) ?_ (by simp) (by simp [sg]) trivial⟩
        simp -dsimp -implicitDefEqProofs (maxSteps := 1000000) only [go_sem, ↓reduceIte, Nat.reduceAdd, Nat.reduceSub, Nat.reduceMul, Nat.reduceLT, Nat.reduceLeDiff, Nat.reduceEqDiff, Nat.reduceBEq, Nat.reduceBNe, Int.reduceToNat, Int.reduceLT, Int.reduceLE, Int.reduceNeg, reduceCtorEq, Int.reduceEq, Int.reduceNe]
        exact ⟨renL_F (by simp -dsimp -implicitDefEqProofs (maxSteps := 1000000) only [go_sem, ↓reduceIte, Nat.reduceAdd, Nat.reduceSub, Nat.reduceMul, Nat.reduceLT, Nat.reduceLeDiff, Nat.reduceEqDiff, Nat.reduceBEq, Nat.reduceBNe, Int.reduceToNat, Int.reduceLT, Int.reduceLE, Int.reduceNeg, reduceCtorEq, Int.reduceEq, Int.reduceNe]), renL_cl2 (fillO_set hN1 (fun k _ => id_iff k) (hval)) (clPx _), renL_F (by simp -dsimp -implicitDefEqProofs (maxSteps := 1000000) only [go_sem, ↓reduceIte, Nat.reduceAdd, Nat.reduceSub, Nat.reduceMul, Nat.reduceLT, Nat.reduceLeDiff, Nat.reduceEqDiff, Nat.reduceBEq, Nat.reduceBNe, Int.reduceToNat, Int.reduceLT, Int.reduceLE, Int.reduceNeg, reduceCtorEq, Int.reduceEq, Int.reduceNe]), renL_F (by simp -dsimp -implicitDefEqProofs (maxSteps := 1000000) only [go_sem, ↓reduceIte, Nat.reduceAdd, Nat.reduceSub, Nat.reduceMul, Nat.reduceLT, Nat.reduceLeDiff, Nat.reduceEqDiff, Nat.reduceBEq, Nat.reduceBNe, Int.reduceToNat, Int.reduceLT, Int.reduceLE, Int.reduceNeg, reduceCtorEq, Int.reduceEq, Int.reduceNe])⟩
      · have hh : hasB ⟨w, h, p⟩ ((i : Int) - dx) ((j : Int) - dy) = false := by simpa using hh
        refine AtFn.pure0 hb ?_
        simp -dsimp -implicitDefEqProofs (maxSteps := 1000000) only [go_sem, ↓reduceIte, Nat.reduceAdd, Nat.reduceSub, Nat.reduceMul, Nat.reduceLT, Nat.reduceLeDiff, Nat.reduceEqDiff, Nat.reduceBEq, Nat.reduceBNe, Int.reduceToNat, Int.reduceLT, Int.reduceLE, Int.reduceNeg, reduceCtorEq, Int.reduceEq, Int.reduceNe, hh]
        refine ⟨⟨i + 1, by omega⟩, by show w - (i + 1) < w - i; omega, Le.tl (Ls := []) (y := none) [] (by simp -dsimp -implicitDefEqProofs (maxSteps := 1000000) only [go_sem, ↓reduceIte, Nat.reduceAdd, Nat.reduceSub, Nat.reduceMul, Nat.reduceLT, Nat.reduceLeDiff, Nat.reduceEqDiff, Nat.reduceBEq, Nat.reduceBNe, Int.reduceToNat, Int.reduceLT, Int.reduceLE, Int.reduceNeg, reduceCtorEq, Int.reduceEq, Int.reduceNe, ei]) ?_ (by simp) (by simp [sg]) trivial⟩
        simp -dsimp -implicitDefEqProofs (maxSteps := 1000000) only [go_sem, ↓reduceIte, Nat.reduceAdd, Nat.reduceSub, Nat.reduceMul, Nat.reduceLT, Nat.reduceLeDiff, Nat.reduceEqDiff, Nat.reduceBEq, Nat.reduceBNe, Int.reduceToNat, Int.reduceLT, Int.reduceLE, Int.reduceNeg, reduceCtorEq, Int.reduceEq, Int.reduceNe]
        refine ⟨renL_F (by simp -dsimp -implicitDefEqProofs (maxSteps := 1000000) only [go_sem, ↓reduceIte, Nat.reduceAdd, Nat.reduceSub, Nat.reduceMul, Nat.reduceLT, Nat.reduceLeDiff, Nat.reduceEqDiff, Nat.reduceBEq, Nat.reduceBNe, Int.reduceToNat, Int.reduceLT, Int.reduceLE, Int.reduceNeg, reduceCtorEq, Int.reduceEq, Int.reduceNe]), renL_cl2 (congrArg pxC (fillO_skip fun k hk ho => ?_)) (clPx _), renL_F (by simp -dsimp -implicitDefEqProofs (maxSteps := 1000000) only [go_sem, ↓reduceIte, Nat.reduceAdd, Nat.reduceSub, Nat.reduceMul, Nat.reduceLT, Nat.reduceLeDiff, Nat.reduceEqDiff, Nat.reduceBEq, Nat.reduceBNe, Int.reduceToNat, Int.reduceLT, Int.reduceLE, Int.reduceNeg, reduceCtorEq, Int.reduceEq, Int.reduceNe]), renL_F (by simp -dsimp -implicitDefEqProofs (maxSteps := 1000000) only [go_sem, ↓reduceIte, Nat.reduceAdd, Nat.reduceSub, Nat.reduceMul, Nat.reduceLT, Nat.reduceLeDiff, Nat.reduceEqDiff, Nat.reduceBEq, Nat.reduceBNe, Int.reduceToNat, Int.reduceLT, Int.reduceLE, Int.reduceNeg, reduceCtorEq, Int.reduceEq, Int.reduceNe])⟩
        show shF ⟨w, h, p⟩ dx dy n (k % w) (k / w) = n
        rw [ho, x1, x2]
        unfold shF
        rw [hh]
        rfl
  · have hc : (vaB r && inkB n) = false := by simpa using hc
    refine pE hc ?_
    obtain ⟨w, h, p⟩ := r
    refine PFun.intro 400 mixed Tryd.func49 (by kernel_rfl) rfl (by first | exact .v _ | (simp [Cl_v, Cl_t, Cl_g, Cl_fn, Cl_rp, Cl_ro]; done) | (simp [Cl_v, Cl_t, Cl_g, Cl_fn, Cl_rp, Cl_ro, or_imp, forall_and]; done) | (split <;> simp [Cl_v, Cl_t, Cl_g, Cl_fn, Cl_rp, Cl_ro])) (Nat.le_of_ble_eq_true rfl) ?_; rw [Tryd.ntmps49, Tryd.results49]
    simp -dsimp -implicitDefEqProofs (maxSteps := 1000000) only [go_sem, ↓reduceIte, Nat.reduceAdd, Nat.reduceSub, Nat.reduceMul, Nat.reduceLT, Nat.reduceLeDiff, Nat.reduceEqDiff, Nat.reduceBEq, Nat.reduceBNe, Int.reduceToNat, Int.reduceLT, Int.reduceLE, Int.reduceNeg, reduceCtorEq, Int.reduceEq, Int.reduceNe]
    refine AtFn.pure0 hv ?_
    simp -dsimp -implicitDefEqProofs (maxSteps := 1000000) only [go_sem, ↓reduceIte, Nat.reduceAdd, Nat.reduceSub, Nat.reduceMul, Nat.reduceLT, Nat.reduceLeDiff, Nat.reduceEqDiff, Nat.reduceBEq, Nat.reduceBNe, Int.reduceToNat, Int.reduceLT, Int.reduceLE, Int.reduceNeg, reduceCtorEq, Int.reduceEq, Int.reduceNe]
    repeat' (first | (apply And.intro <;> (try intro _) <;> try simp -dsimp -implicitDefEqProofs (maxSteps := 1000000) only [go_sem, ↓reduceIte, Nat.reduceAdd, Nat.reduceSub, Nat.reduceMul, Nat.reduceLT, Nat.reduceLeDiff, Nat.reduceEqDiff, Nat.reduceBEq, Nat.reduceBNe, Int.reduceToNat, Int.reduceLT, Int.reduceLE, Int.reduceNeg, reduceCtorEq, Int.reduceEq, Int.reduceNe]) | (refine AtFn.pure0 (ink76 n) ?_; try simp -dsimp -implicitDefEqProofs (maxSteps := 1000000) only [go_sem, ↓reduceIte, Nat.reduceAdd, Nat.reduceSub, Nat.reduceMul, Nat.reduceLT, Nat.reduceLeDiff, Nat.reduceEqDiff, Nat.reduceBEq, Nat.reduceBNe, Int.reduceToNat, Int.reduceLT, Int.reduceLE, Int.reduceNeg, reduceCtorEq, Int.reduceEq, Int.reduceNe]))
    all_goals (exfalso; simp_all)
end

section
set_option maxRecDepth 20000
attribute [local go_sem] clPxT
def croF (w0 : Nat) (p : List Int) (x y w k : Nat) : Int := px p w0 (x + k % w) (y + k / w)
theorem croF_at {w0 x y w i j : Nat} {p : List Int} (hi : i < w) : p.getD ((y + j) * w0 + (x + i)) 0 = croF w0 p x y w (j * w + i) := by
  obtain ⟨x1, x2⟩ := at_idx (j := j) hi
  unfold croF px
  rw [x1, x2]
theorem crop50 (r : Ra) (x y w h : Int) : PFun Tryd.prog 50 [RaA r, I x, I y, I w, I h] (RE (cropP r x y w h)) := by
  have hv := valid27 r
  unfold cropP
  by_cases hc : vaB r = true
  · refine pT hc ?_
    obtain ⟨w0, h0, p, rfl, w1, w2, h1, h2, hlen⟩ := vaR_of hc
    by_cases hd : cropC ⟨w0, h0, p⟩ x y w h = true
    · refine pT hd ?_
      simp only [cropC, Bool.and_eq_true, decide_eq_true_eq] at hd
      obtain ⟨⟨⟨⟨⟨⟨⟨d1, d2⟩, d3⟩, d4⟩, d5⟩, d6⟩, d7⟩, d8⟩ := hd
      obtain ⟨x, rfl⟩ := Int.eq_ofNat_of_zero_le d3
      obtain ⟨y, rfl⟩ := Int.eq_ofNat_of_zero_le d4
      obtain ⟨w, rfl⟩ := Int.eq_ofNat_of_zero_le (show 0 ≤ w by omega)
      obtain ⟨h, rfl⟩ := Int.eq_ofNat_of_zero_le (show 0 ≤ h by omega)
      have hp0 := prodN (w := w) (h := h) (by omega) (by omega)
      have hp1 := prodN w2 h2
      have hm := made59 w h hp0 0
      have e0 : IntKind.u8.wrap 0 = 0 := by decide
      rw [e0] at hm
      obtain ⟨N, hN⟩ : ∃ N, N = w * h := ⟨_, rfl⟩
      rw [← hN] at hp0 hm
      have f1 : ¬ (w : Int) < 1 := by omega
      have f2 : ¬ (h : Int) < 1 := by omega
      have f3 : ¬ (x : Int) < 0 := by omega
      have f4 : ¬ (y : Int) < 0 := by omega
      have f5 : ¬ (w0 : Int) < x := by omega
      have f6 : ¬ (h0 : Int) < y := by omega
      have q1 := wrS (a := w0) (b := x) (by omega) (by omega)
      have q2 := wrS (a := h0) (b := y) (by omega) (by omega)
      have f7 : ¬ ((w0 - x : Nat) : Int) < w := by omega
      have f8 : ¬ ((h0 - y : Nat) : Int) < h := by omega
      have hfin : (mkR (w : Int).toNat (h : Int).toNat fun i j => px p (w0 : Int).toNat ((x : Int).toNat + i) ((y : Int).toNat + j)) = ⟨w, h, fillO N (croF w0 p x y w) (fun _ => 0) (fun k => k) (h * w)⟩ := mkR_fill hN (by rw [hN, Nat.mul_comm]; exact Nat.le_refl _)
      simp only
      rw [hfin]
      refine PFun.intro 400 mixed Tryd.func50 (by kernel_rfl) rfl (clRE _) (Nat.le_of_ble_eq_true rfl) ?_; rw [Tryd.ntmps50, Tryd.results50]
      simp -dsimp -implicitDefEqProofs (maxSteps := 1000000) only [go_sem, ↓reduceIte, Nat.reduceAdd, Nat.reduceSub, Nat.reduceMul, Nat.reduceLT, Nat.reduceLeDiff, Nat.reduceEqDiff, Nat.reduceBEq, Nat.reduceBNe, Int.reduceToNat, Int.reduceLT, Int.reduceLE, Int.reduceNeg, reduceCtorEq, Int.reduceEq, Int.reduceNe]
      refine AtFn.pure0 hv ?_
      simp -dsimp -implicitDefEqProofs (maxSteps := 1000000) only [go_sem, ↓reduceIte, Nat.reduceAdd, Nat.reduceSub, Nat.reduceMul, Nat.reduceLT, Nat.reduceLeDiff, Nat.reduceEqDiff, Nat.reduceBEq, Nat.reduceBNe, Int.reduceToNat, Int.reduceLT, Int.reduceLE, Int.reduceNeg, reduceCtorEq, Int.reduceEq, Int.reduceNe, hc, f1, f2, f3, f4, f5, f6, q1, q2, f7, f8]
      refine AtFn.newR (.g [I (w : Int), I (h : Int), .sl 2 0 N]) hm (renN3 2 _ _ _) ?_
      simp -dsimp -implicitDefEqProofs (maxSteps := 1000000) only [go_sem, ↓reduceIte, Nat.reduceAdd, Nat.reduceSub, Nat.reduceMul, Nat.reduceLT, Nat.reduceLeDiff, Nat.reduceEqDiff, Nat.reduceBEq, Nat.reduceBNe, Int.reduceToNat, Int.reduceLT, Int.reduceLE, Int.reduceNeg, reduceCtorEq, Int.reduceEq, Int.reduceNe]
      refine ⟨{j : Nat // j ≤ h}, fun j => ⟨100, tl [(1, I x), (2, I y), (3, I w), (5, .ptr 0 0 0), (10, .ptr 1 0 0), (11, I 0), (12, .ptr 3 0 0), (67, I h), (68, I j.1)], [(3, ⟨3, [[I (w : Int), I (h : Int), .sl 2 0 N]]⟩), (2, ⟨1, pxC (fillO N (croF w0 p x y w) (fun _ => 0) (fun k => k) (j.1 * w))⟩), (1, ⟨3, [[I 0, I 0, .v (.slice none 0 0)]]⟩), (0, ⟨3, [[I w0, I h0, .ro 1 (pxC p)]]⟩)], 4, .nil⟩, fun j => h - j.1,
        ⟨⟨0, by omega⟩, Le.tl (Ls := []) (y := none) [] (by simp -dsimp -implicitDefEqProofs (maxSteps := 1000000) only [go_sem, ↓reduceIte, Nat.reduceAdd, Nat.reduceSub, Nat.reduceMul, Nat.reduceLT, Nat.reduceLeDiff, Nat.reduceEqDiff, Nat.reduceBEq, Nat.reduceBNe, Int.reduceToNat, Int.reduceLT, Int.reduceLE, Int.reduceNeg, reduceCtorEq, Int.reduceEq, Int.reduceNe]) ?_ (by simp) (by simp [sg]) trivial⟩, fun j => ?_⟩
      · simp -dsimp -implicitDefEqProofs (maxSteps := 1000000) only [go_sem, ↓reduceIte, Nat.reduceAdd, Nat.reduceSub, Nat.reduceMul, Nat.reduceLT, Nat.reduceLeDiff, Nat.reduceEqDiff, Nat.reduceBEq, Nat.reduceBNe, Int.reduceToNat, Int.reduceLT, Int.reduceLE, Int.reduceNeg, reduceCtorEq, Int.reduceEq, Int.reduceNe]
        exact ⟨renL_F (by simp -dsimp -implicitDefEqProofs (maxSteps := 1000000) only [go_sem, ↓reduceIte, Nat.reduceAdd, Nat.reduceSub, Nat.reduceMul, Nat.reduceLT, Nat.reduceLeDiff, Nat.reduceEqDiff, Nat.reduceBEq, Nat.reduceBNe, Int.reduceToNat, Int.reduceLT, Int.reduceLE, Int.reduceNeg, reduceCtorEq, Int.reduceEq, Int.reduceNe]), renL_cl2 (by rw [Nat.zero_mul, fillO_0]; rw [pxRep]) (clPx _), renL_F (by simp -dsimp -implicitDefEqProofs (maxSteps := 1000000) only [go_sem, ↓reduceIte, Nat.reduceAdd, Nat.reduceSub, Nat.reduceMul, Nat.reduceLT, Nat.reduceLeDiff, Nat.reduceEqDiff, Nat.reduceBEq, Nat.reduceBNe, Int.reduceToNat, Int.reduceLT, Int.reduceLE, Int.reduceNeg, reduceCtorEq, Int.reduceEq, Int.reduceNe]), renL_F (by simp -dsimp -implicitDefEqProofs (maxSteps := 1000000) only [go_sem, ↓reduceIte, Nat.reduceAdd, Nat.reduceSub, Nat.reduceMul, Nat.reduceLT, Nat.reduceLeDiff, Nat.reduceEqDiff, Nat.reduceBEq, Nat.reduceBNe, Int.reduceToNat, Int.reduceLT, Int.reduceLE, Int.reduceNeg, reduceCtorEq, Int.reduceEq, Int.reduceNe])⟩
      obtain ⟨j, hj⟩ := j
      simp -dsimp -implicitDefEqProofs (maxSteps := 1000000) only [go_sem, ↓reduceIte, Nat.reduceAdd, Nat.reduceSub, Nat.reduceMul, Nat.reduceLT, Nat.reduceLeDiff, Nat.reduceEqDiff, Nat.reduceBEq, Nat.reduceBNe, Int.reduceToNat, Int.reduceLT, Int.reduceLE, Int.reduceNeg, reduceCtorEq, Int.reduceEq, Int.reduceNe]
      refine ⟨fun hj' => ?_, fun hout => ?_⟩
      rotate_left
      · obtain rfl : j = h := by omega
        rw [if_pos (by rw [pxC_len, fillO_len]; omega), takePx _ _ (fillO_len _ _ _ _ _)]
      have hjl : j < h := by omega
      have ej := wrA1 (a := j) (by omega)
      refine ⟨{i : Nat // i ≤ w}, fun i => ⟨100, tl [(1, I x), (2, I y), (3, I w), (5, .ptr 0 0 0), (10, .ptr 1 0 0), (11, I 0), (12, .ptr 3 0 0), (67, I h), (68, I j), (13, I j), (71, I w), (72, I i.1)], [(3, ⟨3, [[I (w : Int), I (h : Int), .sl 2 0 N]]⟩), (2, ⟨1, pxC (fillO N (croF w0 p x y w) (fun _ => 0) (fun k => k) (j * w + i.1))⟩), (1, ⟨3, [[I 0, I 0, .v (.slice none 0 0)]]⟩), (0, ⟨3, [[I w0, I h0, .ro 1 (pxC p)]]⟩)], 4, .nil⟩, fun i => w - i.1,
        ⟨⟨0, by omega⟩, Le.tl (Ls := []) (y := none) [] (by simp -dsimp -implicitDefEqProofs (maxSteps := 1000000) only [go_sem, ↓reduceIte, Nat.reduceAdd, Nat.reduceSub, Nat.reduceMul, Nat.reduceLT, Nat.reduceLeDiff, Nat.reduceEqDiff, Nat.reduceBEq, Nat.reduceBNe, Int.reduceToNat, Int.reduceLT, Int.reduceLE, Int.reduceNeg, reduceCtorEq, Int.reduceEq, Int.reduceNe]) ?_ (by simp) (by simp [sg]) trivial⟩, fun i => ?_⟩
      · simp -dsimp -implicitDefEqProofs (maxSteps := 1000000) only [go_sem, ↓reduceIte, Nat.reduceAdd, Nat.reduceSub, Nat.reduceMul, Nat.reduceLT, Nat.reduceLeDiff, Nat.reduceEqDiff, Nat.reduceBEq, Nat.reduceBNe, Int.reduceToNat, Int.reduceLT, Int.reduceLE, Int.reduceNeg, reduceCtorEq, Int.reduceEq, Int.reduceNe]
        exact ⟨renL_F (by simp -dsimp -implicitDefEqProofs (maxSteps := 1000000) only [go_sem, ↓reduceIte, Nat.reduceAdd, Nat.reduceSub, Nat.reduceMul, Nat.reduceLT, Nat.reduceLeDiff, Nat.reduceEqDiff, Nat.reduceBEq, Nat.reduceBNe, Int.reduceToNat, Int.reduceLT, Int.reduceLE, Int.reduceNeg, reduceCtorEq, Int.reduceEq, Int.reduceNe]), renL_cl2 rfl (clPx _), renL_F (by simp -dsimp -implicitDefEqProofs (maxSteps := 1000000) only [go_sem, ↓reduceIte, Nat.reduceAdd, Nat.reduceSub, Nat.reduceMul, Nat.reduceLT, Nat.reduceLeDiff, Nat.reduceEqDiff, Nat.reduceBEq, Nat.reduceBNe, Int.reduceToNat, Int.reduceLT, Int.reduceLE, Int.reduceNeg, reduceCtorEq, Int.reduceEq, Int.reduceNe]), renL_F (by simp -dsimp -implicitDefEqProofs (maxSteps := 1000000) only [go_sem, ↓reduceIte, Nat.reduceAdd, Nat.reduceSub, Nat.reduceMul, Nat.reduceLT, Nat.reduceLeDiff, Nat.reduceEqDiff, Nat.reduceBEq, Nat.reduceBNe, Int.reduceToNat, Int.reduceLT, Int.reduceLE, Int.reduceNeg, reduceCtorEq, Int.reduceEq, Int.reduceNe])⟩
      obtain ⟨i, hi⟩ := i
      simp -dsimp -implicitDefEqProofs (maxSteps := 1000000) only [go_sem, ↓reduceIte, Nat.reduceAdd, Nat.reduceSub, Nat.reduceMul, Nat.reduceLT, Nat.reduceLeDiff, Nat.reduceEqDiff, Nat.reduceBEq, Nat.reduceBNe, Int.reduceToNat, Int.reduceLT, Int.reduceLE, Int.reduceNeg, reduceCtorEq, Int.reduceEq, Int.reduceNe]
      refine ⟨fun hi' => ?_, fun hout => ?_⟩
      rotate_left
      · obtain rfl : i = w := by omega
        refine ⟨⟨j + 1, by omega⟩, by show h - (j + 1) < h - j; omega, Le.tl (Ls := []) (y := none) [] (by simp -dsimp -implicitDefEqProofs (maxSteps := 1000000) only [go_sem, ↓reduceIte, Nat.reduceAdd, Nat.reduceSub, Nat.reduceMul, Nat.reduceLT, Nat.reduceLeDiff, Nat.reduceEqDiff, Nat.reduceBEq, Nat.reduceBNe, Int.reduceToNat, Int.reduceLT, Int.reduceLE, Int.reduceNeg, reduceCtorEq, Int.reduceEq, Int.reduceNe, ej]) ?_ (by simp) (by simp [sg]) trivial⟩
        simp -dsimp -implicitDefEqProofs (maxSteps := 1000000) only [go_sem, ↓reduceIte, Nat.reduceAdd, Nat.reduceSub, Nat.reduceMul, Nat.reduceLT, Nat.reduceLeDiff, Nat.reduceEqDiff, Nat.reduceBEq, Nat.reduceBNe, Int.reduceToNat, Int.reduceLT, Int.reduceLE, Int.reduceNeg, reduceCtorEq, Int.reduceEq, Int.reduceNe]
        exact ⟨renL_F (by simp -dsimp -implicitDefEqProofs (maxSteps := 1000000) only [go_sem, ↓reduceIte, Nat.reduceAdd, Nat.reduceSub, Nat.reduceMul, Nat.reduceLT, Nat.reduceLeDiff, Nat.reduceEqDiff, Nat.reduceBEq, Nat.reduceBNe, Int.reduceToNat, Int.reduceLT, Int.reduceLE, Int.reduceNeg, reduceCtorEq, Int.reduceEq, Int.reduceNe]), renL_cl2 (by rw [Nat.succ_mul]) (clPx _), renL_F (by simp -dsimp -implicitDefEqProofs (maxSteps := 1000000) only [go_sem, ↓reduceIte, Nat.reduceAdd, Nat.reduceSub, Nat.reduceMul, Nat.reduceLT, Nat.reduceLeDiff, Nat.reduceEqDiff, Nat.reduceBEq, Nat.reduceBNe, Int.reduceToNat, Int.reduceLT, Int.reduceLE, Int.reduceNeg, reduceCtorEq, Int.reduceEq, Int.reduceNe]), renL_F (by simp -dsimp -implicitDefEqProofs (maxSteps := 1000000) only [go_sem, ↓reduceIte, Nat.reduceAdd, Nat.reduceSub, Nat.reduceMul, Nat.reduceLT, Nat.reduceLeDiff, Nat.reduceEqDiff, Nat.reduceBEq, Nat.reduceBNe, Int.reduceToNat, Int.reduceLT, Int.reduceLE, Int.reduceNeg, reduceCtorEq, Int.reduceEq, Int.reduceNe])⟩
      have hil : i < w := by omega
      have ei := wrA1 (a := i) (by omega)
      have hq := idx_lt (i := i) (j := j) (w := w) (h := h) hil hjl
      have hN1 : j * w + i < N := by rw [hN]; exact hq
      have l2 : ((j * w + i : Nat) : Int) < (N : Int) := by omega
      have b1 := wrM (a := j) (b := w) (by omega)
      have b2 := wrA (a := j * w) (b := i) (by omega)
      obtain ⟨x1, x2⟩ := at_idx (j := j) hil
      have hil2 := idx_lt (i := x + i) (j := y + j) (w := w0) (h := h0) (by omega) (by omega)
      have g1 := getD_some (p := p) (k := (y + j) * w0 + (x + i)) (by rw [hlen]; exact hil2)
      have l1 : (((y + j) * w0 + (x + i) : Nat) : Int) < (p.length : Int) := by rw [hlen]; omega
      have a0 := wrA (a := y) (b := j) (by omega)
      have a1 := wrM (a := y + j) (b := w0) (by omega)
      have a2 := wrA (a := (y + j) * w0) (b := x) (by omega)
      have a3 := wrA (a := (y + j) * w0 + x) (b := i) (by omega)
      have a4 := Nat.add_assoc ((y + j) * w0) x i
      obtain ⟨v, g2⟩ := fillO_get (f := croF w0 p x y w) (z := fun _ => 0) (ord := fun k => k) (n := j * w + i) hN1
      refine AtCode.draw 22 [([], []), ([0], []), ([], []), ([], []), ([2, 3], []), ([], []), ([2, 3, 4, 5], []), ([], []), ([7], []), ([], []), ([], []), ([9, 10], []), ([], []), ([12], []), ([9, 10, 11, 12, 13], []), ([], []), ([9, 10, 11, 12, 13, 14, 15], []), ([], []), ([9, 10, 11, 12, 13, 14, 15, 16, 17], []), ([7, 8, 9, 10, 11, 12, 13, 14, 15, 16, 17, 18], []), ([7, 8, 9, 10, 11, 12, 13, 14, 15, 16, 17, 18, 19], []), ([0, 1, 2, 3, 4, 5, 6, 7, 8, 9, 10, 11, 12, 13, 14, 15, 16, 17, 18, 19, 20], []), ([0, 1, 2, 3, 4, 5, 6, 7, 8, 9, 10, 11, 12, 13, 14, 15, 16, 17, 18, 19, 20, 21], [])] (by kernel_rfl) ?_
      simp -dsimp -implicitDefEqProofs (maxSteps := 1000000) only [go_sem, ↓reduceIte, Nat.reduceAdd, Nat.reduceSub, Nat.reduceMul, Nat.reduceLT, Nat.reduceLeDiff, Nat.reduceEqDiff, Nat.reduceBEq, Nat.reduceBNe, Int.reduceToNat, Int.reduceLT, Int.reduceLE, Int.reduceNeg, reduceCtorEq, Int.reduceEq, Int.reduceNe, b1, b2, a0, a1, a2, a3, a4, g1, g2, ei, pxC_len, pxC_get, Int.natCast_nonneg, Int.toNat_natCast, Nat.zero_add]
      refine ⟨l2, ⟨i + 1, by omega⟩, by show w - (i + 1) < w - i; omega, Le.tl (Ls := []) (y := none) [] (by simp -dsimp -implicitDefEqProofs (maxSteps := 1000000) only [go_sem, ↓reduceIte, Nat.reduceAdd, Nat.reduceSub, Nat.reduceMul, Nat.reduceLT, Nat.reduceLeDiff, Nat.reduceEqDiff, Nat.reduceBEq, Nat.reduceBNe, Int.reduceToNat, Int.reduceLT, Int.reduceLE, Int.reduceNeg, reduceCtorEq, Int.reduceEq, Int.reduceNe, ei]) ?_ (by simp) (by simp [sg]) trivial⟩
      simp -dsimp -implicitDefEqProofs (maxSteps := 1000000) only [go_sem, ↓reduceIte, Nat.reduceAdd, Nat.reduceSub, Nat.reduceMul, Nat.reduceLT, Nat.reduceLeDiff, Nat.reduceEqDiff, Nat.reduceBEq, Nat.reduceBNe, Int.reduceToNat, Int.reduceLT, Int.reduceLE, Int.reduceNeg, reduceCtorEq, Int.reduceEq, Int.reduceNe]
      exact ⟨renL_F (by simp -dsimp -implicitDefEqProofs (maxSteps := 1000000) only [go_sem, ↓reduceIte, Nat.reduceAdd, Nat.reduceSub, Nat.reduceMul, Nat.reduceLT, Nat.reduceLeDiff, Nat.reduceEqDiff, Nat.reduceBEq, Nat.reduceBNe, Int.reduceToNat, Int.reduceLT, Int.reduceLE, Int.reduceNeg, reduceCtorEq, Int.reduceEq, Int.reduceNe]), renL_cl2 (fillO_set hN1 (fun k _ => id_iff k) (croF_at hil)) (clPx _), renL_F (by simp -dsimp -implicitDefEqProofs (maxSteps := 1000000) only [go_sem, ↓reduceIte, Nat.reduceAdd, Nat.reduceSub, Nat.reduceMul, Nat.reduceLT, Nat.reduceLeDiff, Nat.reduceEqDiff, Nat.reduceBEq, Nat.reduceBNe, Int.reduceToNat, Int.reduceLT, Int.reduceLE, Int.reduceNeg, reduceCtorEq, Int.reduceEq, Int.reduceNe]), renL_F (by simp -dsimp -implicitDefEqProofs (maxSteps := 1000000) only [go_sem, ↓reduceIte, Nat.reduceAdd, Nat.reduceSub, Nat.reduceMul, Nat.reduceLT, Nat.reduceLeDiff, Nat.reduceEqDiff, Nat.reduceBEq, Nat.reduceBNe, Int.reduceToNat, Int.reduceLT, Int.reduceLE, Int.reduceNeg, reduceCtorEq, Int.reduceEq, Int.reduceNe])⟩
    · have hd : cropC ⟨w0, h0, p⟩ x y w h = false := by simpa using hd
      refine pE hd ?_
      refine PFun.intro 400 mixed Tryd.func50 (by kernel_rfl) rfl (by first | exact .v _ | (simp [Cl_v, Cl_t, Cl_g, Cl_fn, Cl_rp, Cl_ro]; done) | (simp [Cl_v, Cl_t, Cl_g, Cl_fn, Cl_rp, Cl_ro, or_imp, forall_and]; done) | (split <;> simp [Cl_v, Cl_t, Cl_g, Cl_fn, Cl_rp, Cl_ro])) (Nat.le_of_ble_eq_true rfl) ?_; rw [Tryd.ntmps50, Tryd.results50]
      simp -dsimp -implicitDefEqProofs (maxSteps := 1000000) only [go_sem, ↓reduceIte, Nat.reduceAdd, Nat.reduceSub, Nat.reduceMul, Nat.reduceLT, Nat.reduceLeDiff, Nat.reduceEqDiff, Nat.reduceBEq, Nat.reduceBNe, Int.reduceToNat, Int.reduceLT, Int.reduceLE, Int.reduceNeg, reduceCtorEq, Int.reduceEq, Int.reduceNe]
      refine AtFn.pure0 hv ?_
      simp -dsimp -implicitDefEqProofs (maxSteps := 1000000) only [go_sem, ↓reduceIte, Nat.reduceAdd, Nat.reduceSub, Nat.reduceMul, Nat.reduceLT, Nat.reduceLeDiff, Nat.reduceEqDiff, Nat.reduceBEq, Nat.reduceBNe, Int.reduceToNat, Int.reduceLT, Int.reduceLE, Int.reduceNeg, reduceCtorEq, Int.reduceEq, Int.reduceNe, hc]
      intro p1 p2 p3 p4 p5 p6 q1 q2
      all_goals (exfalso; simp only [cropC, Bool.and_eq_false_iff, decide_eq_false_iff_not] at hd; have z1 : wr ((w0 : Int) - x) = w0 - x := wr_in (by omega) (by omega); have z2 : wr ((h0 : Int) - y) = h0 - y := wr_in (by omega) (by omega); rw [z1] at q1; rw [z2] at q2; omega)
  · have hc : vaB r = false := by simpa using hc
    refine pE hc ?_
    obtain ⟨w', h', p⟩ := r
    refine PFun.intro 400 mixed Tryd.func50 (by kernel_rfl) rfl (by first | exact .v _ | (simp [Cl_v, Cl_t, Cl_g, Cl_fn, Cl_rp, Cl_ro]; done) | (simp [Cl_v, Cl_t, Cl_g, Cl_fn, Cl_rp, Cl_ro, or_imp, forall_and]; done) | (split <;> simp [Cl_v, Cl_t, Cl_g, Cl_fn, Cl_rp, Cl_ro])) (Nat.le_of_ble_eq_true rfl) ?_; rw [Tryd.ntmps50, Tryd.results50]
    simp -dsimp -implicitDefEqProofs (maxSteps := 1000000) only [go_sem, ↓reduceIte, Nat.reduceAdd, Nat.reduceSub, Nat.reduceMul, Nat.reduceLT, Nat.reduceLeDiff, Nat.reduceEqDiff, Nat.reduceBEq, Nat.reduceBNe, Int.reduceToNat, Int.reduceLT, Int.reduceLE, Int.reduceNeg, reduceCtorEq, Int.reduceEq, Int.reduceNe]
    refine AtFn.pure0 hv ?_
    simp -dsimp -implicitDefEqProofs (maxSteps := 1000000) only [go_sem, ↓reduceIte, Nat.reduceAdd, Nat.reduceSub, Nat.reduceMul, Nat.reduceLT, Nat.reduceLeDiff, Nat.reduceEqDiff, Nat.reduceBEq, Nat.reduceBNe, Int.reduceToNat, Int.reduceLT, Int.reduceLE, Int.reduceNeg, reduceCtorEq, Int.reduceEq, Int.reduceNe, hc]
def atP (r : Ra) (i j : Int) : Int × Int := if vaB r then (if hasB r i j then (wr (px r.p r.w.toNat i.toNat j.toNat), 0) else (0, 17)) else (0, 2)
theorem at36 (r : Ra) (i j : Int) : PFun Tryd.prog 36 [RaA r, I i, I j] (.t [I (atP r i j).1, I (atP r i j).2]) := by
  have hv := valid62 r
  have hh := has71 r i j
  unfold atP
  by_cases hc : vaB r = true
  · obtain ⟨w, h, p, rfl, w1, w2, h1, h2, hlen⟩ := vaR_of hc
    by_cases hb : hasB ⟨w, h, p⟩ i j = true
    · obtain ⟨a, b, rfl, rfl, ha2, hb2⟩ := has_of hb
      have hp1 := prodN w2 h2
      have hil2 := idx_lt (i := a) (j := b) (w := w) (h := h) ha2 hb2
      have g1 := getD_some (p := p) (k := b * w + a) (by rw [hlen]; exact hil2)
      have l1 : ((b * w + a : Nat) : Int) < (p.length : Int) := by rw [hlen]; omega
      have e1 := wrM (a := b) (b := w) (by omega)
      have e2 := wrA (a := b * w) (b := a) (by omega)
      rw [if_pos hc, if_pos hb]
      refine PFun.intro 400 mixed Tryd.func36 (by kernel_rfl) rfl (by first | exact .v _ | (simp [Cl_v, Cl_t, Cl_g, Cl_fn, Cl_rp, Cl_ro]; done) | (simp [Cl_v, Cl_t, Cl_g, Cl_fn, Cl_rp, Cl_ro, or_imp, forall_and]; done) | (split <;> simp [Cl_v, Cl_t, Cl_g, Cl_fn, Cl_rp, Cl_ro])) (Nat.le_of_ble_eq_true rfl) ?_; rw [Tryd.ntmps36, Tryd.results36]
      simp -dsimp -implicitDefEqProofs (maxSteps := 1000000) only [go_sem, ↓reduceIte, Nat.reduceAdd, Nat.reduceSub, Nat.reduceMul, Nat.reduceLT, Nat.reduceLeDiff, Nat.reduceEqDiff, Nat.reduceBEq, Nat.reduceBNe, Int.reduceToNat, Int.reduceLT, Int.reduceLE, Int.reduceNeg, reduceCtorEq, Int.reduceEq, Int.reduceNe]
      refine AtFn.pure0 hv ?_
      simp -dsimp -implicitDefEqProofs (maxSteps := 1000000) only [go_sem, ↓reduceIte, Nat.reduceAdd, Nat.reduceSub, Nat.reduceMul, Nat.reduceLT, Nat.reduceLeDiff, Nat.reduceEqDiff, Nat.reduceBEq, Nat.reduceBNe, Int.reduceToNat, Int.reduceLT, Int.reduceLE, Int.reduceNeg, reduceCtorEq, Int.reduceEq, Int.reduceNe, hc]
      refine AtFn.pure0 hh ?_
      simp -dsimp -implicitDefEqProofs (maxSteps := 1000000) only [go_sem, ↓reduceIte, Nat.reduceAdd, Nat.reduceSub, Nat.reduceMul, Nat.reduceLT, Nat.reduceLeDiff, Nat.reduceEqDiff, Nat.reduceBEq, Nat.reduceBNe, Int.reduceToNat, Int.reduceLT, Int.reduceLE, Int.reduceNeg, reduceCtorEq, Int.reduceEq, Int.reduceNe, hb, e1, e2, g1, pxC_len, pxC_get, Int.natCast_nonneg, Int.toNat_natCast, Nat.zero_add]
      rfl
    · have hb' : hasB ⟨w, h, p⟩ i j = false := by simpa using hb
      rw [if_pos hc, if_neg hb]
      refine PFun.intro 400 mixed Tryd.func36 (by kernel_rfl) rfl (by first | exact .v _ | (simp [Cl_v, Cl_t, Cl_g, Cl_fn, Cl_rp, Cl_ro]; done) | (simp [Cl_v, Cl_t, Cl_g, Cl_fn, Cl_rp, Cl_ro, or_imp, forall_and]; done) | (split <;> simp [Cl_v, Cl_t, Cl_g, Cl_fn, Cl_rp, Cl_ro])) (Nat.le_of_ble_eq_true rfl) ?_; rw [Tryd.ntmps36, Tryd.results36]
      simp -dsimp -implicitDefEqProofs (maxSteps := 1000000) only [go_sem, ↓reduceIte, Nat.reduceAdd, Nat.reduceSub, Nat.reduceMul, Nat.reduceLT, Nat.reduceLeDiff, Nat.reduceEqDiff, Nat.reduceBEq, Nat.reduceBNe, Int.reduceToNat, Int.reduceLT, Int.reduceLE, Int.reduceNeg, reduceCtorEq, Int.reduceEq, Int.reduceNe]
      refine AtFn.pure0 hv ?_
      simp -dsimp -implicitDefEqProofs (maxSteps := 1000000) only [go_sem, ↓reduceIte, Nat.reduceAdd, Nat.reduceSub, Nat.reduceMul, Nat.reduceLT, Nat.reduceLeDiff, Nat.reduceEqDiff, Nat.reduceBEq, Nat.reduceBNe, Int.reduceToNat, Int.reduceLT, Int.reduceLE, Int.reduceNeg, reduceCtorEq, Int.reduceEq, Int.reduceNe, hc]
      refine AtFn.pure0 hh ?_
      simp -dsimp -implicitDefEqProofs (maxSteps := 1000000) only [go_sem, ↓reduceIte, Nat.reduceAdd, Nat.reduceSub, Nat.reduceMul, Nat.reduceLT, Nat.reduceLeDiff, Nat.reduceEqDiff, Nat.reduceBEq, Nat.reduceBNe, Int.reduceToNat, Int.reduceLT, Int.reduceLE, Int.reduceNeg, reduceCtorEq, Int.reduceEq, Int.reduceNe, hb']
  · have hc' : vaB r = false := by simpa using hc
    rw [if_neg hc]
    obtain ⟨w, h, p⟩ := r
    refine PFun.intro 400 mixed Tryd.func36 (by kernel_rfl) rfl (by first | exact .v _ | (simp [Cl_v, Cl_t, Cl_g, Cl_fn, Cl_rp, Cl_ro]; done) | (simp [Cl_v, Cl_t, Cl_g, Cl_fn, Cl_rp, Cl_ro, or_imp, forall_and]; done) | (split <;> simp [Cl_v, Cl_t, Cl_g, Cl_fn, Cl_rp, Cl_ro])) (Nat.le_of_ble_eq_true rfl) ?_; rw [Tryd.ntmps36, Tryd.results36]
    simp -dsimp -implicitDefEqProofs (maxSteps := 1000000) only [go_sem, ↓reduceIte, Nat.reduceAdd, Nat.reduceSub, Nat.reduceMul, Nat.reduceLT, Nat.reduceLeDiff, Nat.reduceEqDiff, Nat.reduceBEq, Nat.reduceBNe, Int.reduceToNat, Int.reduceLT, Int.reduceLE, Int.reduceNeg, reduceCtorEq, Int.reduceEq, Int.reduceNe]
    refine AtFn.pure0 hv ?_
    simp -dsimp -implicitDefEqProofs (maxSteps := 1000000) only [go_sem, ↓reduceIte, Nat.reduceAdd, Nat.reduceSub, Nat.reduceMul, Nat.reduceLT, Nat.reduceLeDiff, Nat.reduceEqDiff, Nat.reduceBEq, Nat.reduceBNe, Int.reduceToNat, Int.reduceLT, Int.reduceLE, Int.reduceNeg, reduceCtorEq, Int.reduceEq, Int.reduceNe, hc']
def setP (r : Ra) (i j n : Int) : Ra × Int := if vaB r && inkB n then (if hasB r i j then (⟨r.w, r.h, r.p.set (j.toNat * r.w.toNat + i.toNat) n⟩, 0) else (raZ, 17)) else (raZ, 2)
theorem pxC_set (p : List Int) (k : Nat) (n : Int) : (pxC p).set k [U n] = pxC (p.set k n) := by unfold pxC; rw [List.map_set]
theorem set38 (r : Ra) (i j n : Int) : PFun Tryd.prog 38 [RaA r, I i, I j, I n] (RE (setP r i j n)) := by
  have hv := valid62 r
  have hh := has71 r i j
  have hi := ink67 n
  unfold setP
  by_cases hc : (vaB r && inkB n) = true
  · refine pT hc ?_
    simp only [Bool.and_eq_true] at hc
    obtain ⟨hc, hn⟩ := hc
    obtain ⟨w, h, p, rfl, w1, w2, h1, h2, hlen⟩ := vaR_of hc
    have hp1 := prodN w2 h2
    by_cases hb : hasB ⟨w, h, p⟩ i j = true
    · refine pT hb ?_
      obtain ⟨a, b, rfl, rfl, ha2, hb2⟩ := has_of hb
      have hil2 := idx_lt (i := a) (j := b) (w := w) (h := h) ha2 hb2
      have g1 := getD_some (p := p) (k := b * w + a) (by rw [hlen]; exact hil2)
      have l1 : ((b * w + a : Nat) : Int) < (p.length : Int) := by rw [hlen]; omega
      have e1 := wrM (a := b) (b := w) (by omega)
      have e2 := wrA (a := b * w) (b := a) (by omega)
      have hm := clone72 (w : Int) (h : Int) p (by omega)
      refine PFun.intro 400 mixed Tryd.func38 (by kernel_rfl) rfl (clRE _) (Nat.le_of_ble_eq_true rfl) ?_; rw [Tryd.ntmps38, Tryd.results38]
      simp -dsimp -implicitDefEqProofs (maxSteps := 1000000) only [go_sem, ↓reduceIte, Nat.reduceAdd, Nat.reduceSub, Nat.reduceMul, Nat.reduceLT, Nat.reduceLeDiff, Nat.reduceEqDiff, Nat.reduceBEq, Nat.reduceBNe, Int.reduceToNat, Int.reduceLT, Int.reduceLE, Int.reduceNeg, reduceCtorEq, Int.reduceEq, Int.reduceNe]
      refine AtFn.pure0 hv ?_
      simp -dsimp -implicitDefEqProofs (maxSteps := 1000000) only [go_sem, ↓reduceIte, Nat.reduceAdd, Nat.reduceSub, Nat.reduceMul, Nat.reduceLT, Nat.reduceLeDiff, Nat.reduceEqDiff, Nat.reduceBEq, Nat.reduceBNe, Int.reduceToNat, Int.reduceLT, Int.reduceLE, Int.reduceNeg, reduceCtorEq, Int.reduceEq, Int.reduceNe, hc]
      refine AtFn.pure0 hi ?_
      simp -dsimp -implicitDefEqProofs (maxSteps := 1000000) only [go_sem, ↓reduceIte, Nat.reduceAdd, Nat.reduceSub, Nat.reduceMul, Nat.reduceLT, Nat.reduceLeDiff, Nat.reduceEqDiff, Nat.reduceBEq, Nat.reduceBNe, Int.reduceToNat, Int.reduceLT, Int.reduceLE, Int.reduceNeg, reduceCtorEq, Int.reduceEq, Int.reduceNe, hn]
      refine AtFn.pure0 hh ?_
      simp -dsimp -implicitDefEqProofs (maxSteps := 1000000) only [go_sem, ↓reduceIte, Nat.reduceAdd, Nat.reduceSub, Nat.reduceMul, Nat.reduceLT, Nat.reduceLeDiff, Nat.reduceEqDiff, Nat.reduceBEq, Nat.reduceBNe, Int.reduceToNat, Int.reduceLT, Int.reduceLE, Int.reduceNeg, reduceCtorEq, Int.reduceEq, Int.reduceNe, hb]
      refine AtFn.newR (.g [I (w : Int), I (h : Int), .sl 2 0 p.length]) hm (renN3 2 _ _ _) ?_
      simp -dsimp -implicitDefEqProofs (maxSteps := 1000000) only [go_sem, ↓reduceIte, Nat.reduceAdd, Nat.reduceSub, Nat.reduceMul, Nat.reduceLT, Nat.reduceLeDiff, Nat.reduceEqDiff, Nat.reduceBEq, Nat.reduceBNe, Int.reduceToNat, Int.reduceLT, Int.reduceLE, Int.reduceNeg, reduceCtorEq, Int.reduceEq, Int.reduceNe, e1, e2, g1, pxC_len, pxC_get, Int.natCast_nonneg, Int.toNat_natCast, Nat.zero_add, u8_ink hn, pxC_set, List.length_set]
      rw [if_pos (Nat.le_refl _), takePx _ _ (List.length_set ..)]
      exact ⟨l1, rfl⟩
    · have hb' : hasB ⟨w, h, p⟩ i j = false := by simpa using hb
      refine pE hb' ?_
      refine PFun.intro 400 mixed Tryd.func38 (by kernel_rfl) rfl (by first | exact .v _ | (simp [Cl_v, Cl_t, Cl_g, Cl_fn, Cl_rp, Cl_ro]; done) | (simp [Cl_v, Cl_t, Cl_g, Cl_fn, Cl_rp, Cl_ro, or_imp, forall_and]; done) | (split <;> simp [Cl_v, Cl_t, Cl_g, Cl_fn, Cl_rp, Cl_ro])) (Nat.le_of_ble_eq_true rfl) ?_; rw [Tryd.ntmps38, Tryd.results38]
      simp -dsimp -implicitDefEqProofs (maxSteps := 1000000) only [go_sem, ↓reduceIte, Nat.reduceAdd, Nat.reduceSub, Nat.reduceMul, Nat.reduceLT, Nat.reduceLeDiff, Nat.reduceEqDiff, Nat.reduceBEq, Nat.reduceBNe, Int.reduceToNat, Int.reduceLT, Int.reduceLE, Int.reduceNeg, reduceCtorEq, Int.reduceEq, Int.reduceNe]
      refine AtFn.pure0 hv ?_
      simp -dsimp -implicitDefEqProofs (maxSteps := 1000000) only [go_sem, ↓reduceIte, Nat.reduceAdd, Nat.reduceSub, Nat.reduceMul, Nat.reduceLT, Nat.reduceLeDiff, Nat.reduceEqDiff, Nat.reduceBEq, Nat.reduceBNe, Int.reduceToNat, Int.reduceLT, Int.reduceLE, Int.reduceNeg, reduceCtorEq, Int.reduceEq, Int.reduceNe, hc]
      refine AtFn.pure0 hi ?_
      simp -dsimp -implicitDefEqProofs (maxSteps := 1000000) only [go_sem, ↓reduceIte, Nat.reduceAdd, Nat.reduceSub, Nat.reduceMul, Nat.reduceLT, Nat.reduceLeDiff, Nat.reduceEqDiff, Nat.reduceBEq, Nat.reduceBNe, Int.reduceToNat, Int.reduceLT, Int.reduceLE, Int.reduceNeg, reduceCtorEq, Int.reduceEq, Int.reduceNe, hn]
      refine AtFn.pure0 hh ?_
      simp -dsimp -implicitDefEqProofs (maxSteps := 1000000) only [go_sem, ↓reduceIte, Nat.reduceAdd, Nat.reduceSub, Nat.reduceMul, Nat.reduceLT, Nat.reduceLeDiff, Nat.reduceEqDiff, Nat.reduceBEq, Nat.reduceBNe, Int.reduceToNat, Int.reduceLT, Int.reduceLE, Int.reduceNeg, reduceCtorEq, Int.reduceEq, Int.reduceNe, hb']
      exact AtFn.pure0 (none53 17) (by simp -dsimp -implicitDefEqProofs (maxSteps := 1000000) only [go_sem, ↓reduceIte, Nat.reduceAdd, Nat.reduceSub, Nat.reduceMul, Nat.reduceLT, Nat.reduceLeDiff, Nat.reduceEqDiff, Nat.reduceBEq, Nat.reduceBNe, Int.reduceToNat, Int.reduceLT, Int.reduceLE, Int.reduceNeg, reduceCtorEq, Int.reduceEq, Int.reduceNe])
  · have hc : (vaB r && inkB n) = false := by simpa using hc
    refine pE hc ?_
    obtain ⟨w, h, p⟩ := r
    refine PFun.intro 400 mixed Tryd.func38 (by kernel_rfl) rfl (by first | exact .v _ | (simp [Cl_v, Cl_t, Cl_g, Cl_fn, Cl_rp, Cl_ro]; done) | (simp [Cl_v, Cl_t, Cl_g, Cl_fn, Cl_rp, Cl_ro, or_imp, forall_and]; done) | (split <;> simp [Cl_v, Cl_t, Cl_g, Cl_fn, Cl_rp, Cl_ro])) (Nat.le_of_ble_eq_true rfl) ?_; rw [Tryd.ntmps38, Tryd.results38]
    simp -dsimp -implicitDefEqProofs (maxSteps := 1000000) only [go_sem, ↓reduceIte, Nat.reduceAdd, Nat.reduceSub, Nat.reduceMul, Nat.reduceLT, Nat.reduceLeDiff, Nat.reduceEqDiff, Nat.reduceBEq, Nat.reduceBNe, Int.reduceToNat, Int.reduceLT, Int.reduceLE, Int.reduceNeg, reduceCtorEq, Int.reduceEq, Int.reduceNe]
    refine AtFn.pure0 hv ?_
    simp -dsimp -implicitDefEqProofs (maxSteps := 1000000) only [go_sem, ↓reduceIte, Nat.reduceAdd, Nat.reduceSub, Nat.reduceMul, Nat.reduceLT, Nat.reduceLeDiff, Nat.reduceEqDiff, Nat.reduceBEq, Nat.reduceBNe, Int.reduceToNat, Int.reduceLT, Int.reduceLE, Int.reduceNeg, reduceCtorEq, Int.reduceEq, Int.reduceNe]
    repeat' (first | (apply And.intro <;> (try intro _) <;> try simp -dsimp -implicitDefEqProofs (maxSteps := 1000000) only [go_sem, ↓reduceIte, Nat.reduceAdd, Nat.reduceSub, Nat.reduceMul, Nat.reduceLT, Nat.reduceLeDiff, Nat.reduceEqDiff, Nat.reduceBEq, Nat.reduceBNe, Int.reduceToNat, Int.reduceLT, Int.reduceLE, Int.reduceNeg, reduceCtorEq, Int.reduceEq, Int.reduceNe]) | (refine AtFn.pure0 hi ?_; try simp -dsimp -implicitDefEqProofs (maxSteps := 1000000) only [go_sem, ↓reduceIte, Nat.reduceAdd, Nat.reduceSub, Nat.reduceMul, Nat.reduceLT, Nat.reduceLeDiff, Nat.reduceEqDiff, Nat.reduceBEq, Nat.reduceBNe, Int.reduceToNat, Int.reduceLT, Int.reduceLE, Int.reduceNeg, reduceCtorEq, Int.reduceEq, Int.reduceNe]) | (refine AtFn.pure0 (none53 2) ?_; try simp -dsimp -implicitDefEqProofs (maxSteps := 1000000) only [go_sem, ↓reduceIte, Nat.reduceAdd, Nat.reduceSub, Nat.reduceMul, Nat.reduceLT, Nat.reduceLeDiff, Nat.reduceEqDiff, Nat.reduceBEq, Nat.reduceBNe, Int.reduceToNat, Int.reduceLT, Int.reduceLE, Int.reduceNeg, reduceCtorEq, Int.reduceEq, Int.reduceNe]))
    all_goals (exfalso; simp_all)
end

section
set_option maxRecDepth 20000
theorem slE_ro3 (P : Program) (H : Nat → Option Blk) (t : TypeId) (e : Nat) (c : List (List AV)) (lo : Option AV) (a b : AV) (K : AV → Prop) : slE P H t (.ro e c) lo (some a) (some b) K =
    optK (asI a) fun p => optK (asI b) fun q => p.2 = q.2 ∧ slE P H t (.ro e c) lo (some a) none K := Go.Eng.slE_ro3 P H t e c lo a b K
attribute [local go_sem] clPxT slE_ro3
def chunkL {α : Type} (n : Nat) (l : List α) : List (List α) := (List.range ((l.length + n - 1) / n)).map fun i => (l.drop (i * n)).take n
theorem chunk_lt {n q L : Nat} (hn : 1 ≤ n) : q * n < L ↔ q < (L + n - 1) / n := by
  rw [Nat.lt_iff_add_one_le, Nat.lt_iff_add_one_le, Nat.le_div_iff_mul_le (by omega), Nat.succ_mul]
  omega
abbrev Yv (l : Nat) : AV := .v (.func (.yield l) #[] #[])
theorem chunk56 (l : List Int) (n : Nat) (hn : 1 ≤ n) : PFun Tryd.prog 56 [.ro 1 (pxC l), I (n : Int)] (.fn 86 [.rp [.ro 1 (pxC l)] 0, .rp [I (n : Int)] 0]) := by
  have hn' : ¬ (n : Int) < 1 := by omega
  refine PFun.intro 400 mixed Tryd.func56 (by kernel_rfl) rfl (by simp [Cl_fn, Cl_rp, Cl_ro, Cl_v, clPxT]) (Nat.le_of_ble_eq_true rfl) ?_; rw [Tryd.ntmps56, Tryd.results56]
  simp -dsimp -implicitDefEqProofs (maxSteps := 1000000) only [go_sem, ↓reduceIte, Nat.reduceAdd, Nat.reduceSub, Nat.reduceMul, Nat.reduceLT, Nat.reduceLeDiff, Nat.reduceEqDiff, Nat.reduceBEq, Nat.reduceBNe, Int.reduceToNat, Int.reduceLT, Int.reduceLE, Int.reduceNeg, reduceCtorEq, Int.reduceEq, Int.reduceNe, hn']
theorem chunk86 (l : List Int) (n : Nat) (hn : 1 ≤ n) (hn2 : n ≤ 65536) (hl : l.length ≤ 4294967296) : ISeq Tryd.prog 86 [.rp [.ro 1 (pxC l)] 0, .rp [I (n : Int)] 0] ((chunkL n l).map fun c => [.ro 1 (pxC c)]) := by
  obtain ⟨m, hm⟩ : ∃ m, m = (l.length + n - 1) / n := ⟨_, rfl⟩
  obtain ⟨xs, hxs⟩ : ∃ xs : List (List AV), xs = (chunkL n l).map fun c => [.ro 1 (pxC c)] := ⟨_, rfl⟩
  have hget : ∀ q, q < m → xs[q]? = some [.ro 1 (pxC ((l.drop (q * n)).take n))] := fun q hq => by
    rw [hxs, List.getElem?_map]
    unfold chunkL
    rw [List.getElem?_map, List.getElem?_range (by omega)]
    rfl
  have hxl : xs.length = m := by rw [hxs, hm]; simp [chunkL]
  rw [← hxs]
  refine ISeq.intro 400 mixed Tryd.func86 (by kernel_rfl) rfl (by kernel_rfl) (Nat.le_of_ble_eq_true rfl) fun y => ?_
  rw [Tryd.ntmps86]
  simp -dsimp -implicitDefEqProofs (maxSteps := 1000000) only [go_sem, ↓reduceIte, Nat.reduceAdd, Nat.reduceSub, Nat.reduceMul, Nat.reduceLT, Nat.reduceLeDiff, Nat.reduceEqDiff, Nat.reduceBEq, Nat.reduceBNe, Int.reduceToNat, Int.reduceLT, Int.reduceLE, Int.reduceNeg, reduceCtorEq, Int.reduceEq, Int.reduceNe]
  refine ⟨{q : Nat // q ≤ m}, fun q => ⟨31, tl [(0, Yv y), (1, .rp [.ro 1 (pxC l)] 0), (2, .rp [I (n : Int)] 0), (4, I ((q.1 * n : Nat) : Int))], [], 0, ⟨[], some (.it y (xs.drop q.1))⟩⟩, fun q => m - q.1,
    ⟨⟨0, by omega⟩, Le.tl (sv := []) (Ls := []) (h' := []) (k' := 0) (y := some (.it y xs)) [] ?_ (by simp) (by simp) (by simp) trivial⟩, fun q => ?_⟩
  · simp -dsimp -implicitDefEqProofs (maxSteps := 1000000) only [go_sem, ↓reduceIte, Nat.reduceAdd, Nat.reduceSub, Nat.reduceMul, Nat.reduceLT, Nat.reduceLeDiff, Nat.reduceEqDiff, Nat.reduceBEq, Nat.reduceBNe, Int.reduceToNat, Int.reduceLT, Int.reduceLE, Int.reduceNeg, reduceCtorEq, Int.reduceEq, Int.reduceNe, Nat.zero_mul]
  · obtain ⟨q, hq⟩ := q
    simp -dsimp -implicitDefEqProofs (maxSteps := 1000000) only [go_sem, ↓reduceIte, Nat.reduceAdd, Nat.reduceSub, Nat.reduceMul, Nat.reduceLT, Nat.reduceLeDiff, Nat.reduceEqDiff, Nat.reduceBEq, Nat.reduceBNe, Int.reduceToNat, Int.reduceLT, Int.reduceLE, Int.reduceNeg, reduceCtorEq, Int.reduceEq, Int.reduceNe, pxC_len]
    refine ⟨fun h => ?_, fun h => ?_⟩
    · have hlt : q * n < l.length := by omega
      have hqm : q < m := by rw [hm]; exact (chunk_lt hn).1 hlt
      refine AtCode.draw 7 [([], []), ([], []), ([], []), ([1, 2], []), ([1, 2, 3], []), ([0, 1, 2, 3, 4], []), ([0, 1, 2, 3, 4, 5], [])] (by kernel_rfl) ?_
      obtain ⟨d, hd⟩ : ∃ d, d = min n (l.length - q * n) := ⟨_, rfl⟩
      have e1 : List.take l.length (pxC l) = pxC l := List.take_of_length_le (by rw [pxC_len]; exact Nat.le_refl _)
      have e2 : (List.drop (q * n) (pxC l)).length = l.length - q * n := by rw [List.length_drop, pxC_len]
      have e3 : min (n : Int) ((l.length - q * n : Nat) : Int) = (d : Int) := by omega
      have e4 := wrA (a := q * n) (b := d) (by omega)
      have e5 : List.drop (q * n) (List.take (q * n + d) (pxC l)) = pxC ((l.drop (q * n)).take n) := by
        unfold pxC
        rw [← List.map_take, ← List.map_drop, List.drop_take, show q * n + d - q * n = d by omega, hd, ← List.length_drop, List.take_eq_take_min (l := l.drop (q * n)) (i := n)]
      have c1 : q * n ≤ l.length := by omega
      have c2 : q * n ≤ q * n + d := by omega
      have c3 : q * n + d ≤ l.length := by omega
      have hw := wrA (a := q * n) (b := n) (by omega)
      have hdr : xs.drop q = [AV.ro 1 (pxC ((l.drop (q * n)).take n))] :: xs.drop (q + 1) := by
        have hlt : q < xs.length := by omega
        rw [List.drop_eq_getElem_cons hlt]
        have := List.getElem?_eq_getElem hlt
        rw [hget q hqm] at this
        rw [← Option.some.inj this]
      simp -dsimp -implicitDefEqProofs (maxSteps := 1000000) only [go_sem, ↓reduceIte, Nat.reduceAdd, Nat.reduceSub, Nat.reduceMul, Nat.reduceLT, Nat.reduceLeDiff, Nat.reduceEqDiff, Nat.reduceBEq, Nat.reduceBNe, Int.reduceToNat, Int.reduceLT, Int.reduceLE, Int.reduceNeg, reduceCtorEq, Int.reduceEq, Int.reduceNe, pxC_len, Int.toNat_natCast, e1, e2, e3, e4, e5, c1, c2, c3, Int.natCast_nonneg, Nat.le_refl]
      refine AtYl.use' (as' := [.ro 1 (pxC ((l.drop (q * n)).take n))]) (rest := xs.drop (q + 1)) (by simp -dsimp -implicitDefEqProofs (maxSteps := 1000000) only [go_sem, ↓reduceIte, Nat.reduceAdd, Nat.reduceSub, Nat.reduceMul, Nat.reduceLT, Nat.reduceLeDiff, Nat.reduceEqDiff, Nat.reduceBEq, Nat.reduceBNe, Int.reduceToNat, Int.reduceLT, Int.reduceLE, Int.reduceNeg, reduceCtorEq, Int.reduceEq, Int.reduceNe]) rfl (by show some (Yl.it y (xs.drop q)) = _; rw [hdr]) (by simp -dsimp -implicitDefEqProofs (maxSteps := 1000000) only [go_sem, ↓reduceIte, Nat.reduceAdd, Nat.reduceSub, Nat.reduceMul, Nat.reduceLT, Nat.reduceLeDiff, Nat.reduceEqDiff, Nat.reduceBEq, Nat.reduceBNe, Int.reduceToNat, Int.reduceLT, Int.reduceLE, Int.reduceNeg, reduceCtorEq, Int.reduceEq, Int.reduceNe]) fun z => ?_
      cases z
      · simp -dsimp -implicitDefEqProofs (maxSteps := 1000000) only [go_sem, ↓reduceIte, Nat.reduceAdd, Nat.reduceSub, Nat.reduceMul, Nat.reduceLT, Nat.reduceLeDiff, Nat.reduceEqDiff, Nat.reduceBEq, Nat.reduceBNe, Int.reduceToNat, Int.reduceLT, Int.reduceLE, Int.reduceNeg, reduceCtorEq, Int.reduceEq, Int.reduceNe]
        try simp
      · simp -dsimp -implicitDefEqProofs (maxSteps := 1000000) only [go_sem, ↓reduceIte, Nat.reduceAdd, Nat.reduceSub, Nat.reduceMul, Nat.reduceLT, Nat.reduceLeDiff, Nat.reduceEqDiff, Nat.reduceBEq, Nat.reduceBNe, Int.reduceToNat, Int.reduceLT, Int.reduceLE, Int.reduceNeg, reduceCtorEq, Int.reduceEq, Int.reduceNe]
        refine ⟨⟨q + 1, by omega⟩, by show m - (q + 1) < m - q; omega, Le.tl (sv := []) (Ls := []) (h' := []) (k' := 0) (y := some (.it y (xs.drop (q + 1)))) [] ?_ (by simp) (by simp) (by simp) trivial⟩
        simp -dsimp -implicitDefEqProofs (maxSteps := 1000000) only [go_sem, ↓reduceIte, Nat.reduceAdd, Nat.reduceSub, Nat.reduceMul, Nat.reduceLT, Nat.reduceLeDiff, Nat.reduceEqDiff, Nat.reduceBEq, Nat.reduceBNe, Int.reduceToNat, Int.reduceLT, Int.reduceLE, Int.reduceNeg, reduceCtorEq, Int.reduceEq, Int.reduceNe, hw, Nat.succ_mul]
    · have : q = m := by
        rcases Nat.lt_or_ge q m with h1 | h1
        · rw [hm] at h1
          have := (chunk_lt hn).2 h1
          omega
        · omega
      subst this
      exact ⟨y, by rw [List.drop_eq_nil_of_le (by omega)]⟩
abbrev rowC (r : List Int) : List AV := [.ro 1 (pxC r)]
theorem clRows (l : List (List Int)) : ∀ c ∈ l.map rowC, ∀ s ∈ c, Cl s := fun c hc s hs => by
  obtain ⟨r, _, rfl⟩ := List.mem_map.1 hc
  rw [List.mem_singleton.1 hs]; exact .ro (clPx r)
theorem append103 (g : Nat) (caps : List AV) (hc : ∀ x ∈ caps, Cl x) (l : List (List Int)) (hl : l.length < 2 ^ 36) (hfz : ∀ H, caps.map (frzA H 2) = caps) (hnm : ∀ H, caps.flatMap (namesA H 2) = []) (h : ISeq Tryd.prog g caps (l.map rowC)) : RFun Tryd.prog 103 [.v (.slice none 0 0), .fn g caps] 1 (l.map rowC) (.sl 0 0 l.length) := by
  refine RFun.intro 400 1 mixed Tryd.func103 (by kernel_rfl) rfl (clRows _) (Nat.le_of_ble_eq_true rfl) ?_; rw [Tryd.ntmps103, Tryd.results103]
  simp -dsimp -implicitDefEqProofs (maxSteps := 1000000) only [go_sem, ↓reduceIte, Nat.reduceAdd, Nat.reduceSub, Nat.reduceMul, Nat.reduceLT, Nat.reduceLeDiff, Nat.reduceEqDiff, Nat.reduceBEq, Nat.reduceBNe, Int.reduceToNat, Int.reduceLT, Int.reduceLE, Int.reduceNeg, reduceCtorEq, Int.reduceEq, Int.reduceNe]
  refine AtCode.rangeF g caps (l.map rowC) [] (fun i => [(2, .ptr 0 0 0)]) (fun _ => []) (fun i => [(0, ⟨1, [[.sl 1 0 i]]⟩), (1, ⟨1, (l.take i).map rowC⟩)]) (fun _ => 2) [] ?_ ?_ hc h ?_ rfl ?_ ?_ (by simp) (by simp [sg]) trivial ?_ ?_
  · simp -dsimp -implicitDefEqProofs (maxSteps := 1000000) only [go_sem, ↓reduceIte, Nat.reduceAdd, Nat.reduceSub, Nat.reduceMul, Nat.reduceLT, Nat.reduceLeDiff, Nat.reduceEqDiff, Nat.reduceBEq, Nat.reduceBNe, Int.reduceToNat, Int.reduceLT, Int.reduceLE, Int.reduceNeg, reduceCtorEq, Int.reduceEq, Int.reduceNe, hfz]
  · simp -dsimp -implicitDefEqProofs (maxSteps := 1000000) only [go_sem, ↓reduceIte, Nat.reduceAdd, Nat.reduceSub, Nat.reduceMul, Nat.reduceLT, Nat.reduceLeDiff, Nat.reduceEqDiff, Nat.reduceBEq, Nat.reduceBNe, Int.reduceToNat, Int.reduceLT, Int.reduceLE, Int.reduceNeg, reduceCtorEq, Int.reduceEq, Int.reduceNe, hnm]
  · intro bs hbs
    obtain ⟨p, _, rfl⟩ := List.mem_map.1 hbs
    rfl
  · simp -dsimp -implicitDefEqProofs (maxSteps := 1000000) only [go_sem, ↓reduceIte, Nat.reduceAdd, Nat.reduceSub, Nat.reduceMul, Nat.reduceLT, Nat.reduceLeDiff, Nat.reduceEqDiff, Nat.reduceBEq, Nat.reduceBNe, Int.reduceToNat, Int.reduceLT, Int.reduceLE, Int.reduceNeg, reduceCtorEq, Int.reduceEq, Int.reduceNe]
  · simp -dsimp -implicitDefEqProofs (maxSteps := 1000000) only [go_sem, ↓reduceIte, Nat.reduceAdd, Nat.reduceSub, Nat.reduceMul, Nat.reduceLT, Nat.reduceLeDiff, Nat.reduceEqDiff, Nat.reduceBEq, Nat.reduceBNe, Int.reduceToNat, Int.reduceLT, Int.reduceLE, Int.reduceNeg, reduceCtorEq, Int.reduceEq, Int.reduceNe]
    exact renL_one .nil
  · intro i bs hbs
    obtain ⟨p, hp, rfl⟩ : ∃ p, l[i]? = some p ∧ rowC p = bs := by simpa using hbs
    have hi := lt_get hp
    simp -dsimp -implicitDefEqProofs (maxSteps := 1000000) only [go_sem, ↓reduceIte, Nat.reduceAdd, Nat.reduceSub, Nat.reduceMul, Nat.reduceLT, Nat.reduceLeDiff, Nat.reduceEqDiff, Nat.reduceBEq, Nat.reduceBNe, Int.reduceToNat, Int.reduceLT, Int.reduceLE, Int.reduceNeg, reduceCtorEq, Int.reduceEq, Int.reduceNe]
    rw [takeA_self (by simp; omega), show (List.map rowC (List.take i l)) ++ [[AV.ro 1 (pxC p)]] = List.map rowC (List.take (i + 1) l) from snoc_map hp rowC]
    have hi2 : 2 ^ 36 = 68719476736 := rfl
    refine ⟨by simp; omega, by simp; omega, Le.hid (Ls := []) [(1, 3)] ?_ ?_ (by simp) (by simp [sg]) trivial⟩
    · simp -dsimp -implicitDefEqProofs (maxSteps := 1000000) only [go_sem, ↓reduceIte, Nat.reduceAdd, Nat.reduceSub, Nat.reduceMul, Nat.reduceLT, Nat.reduceLeDiff, Nat.reduceEqDiff, Nat.reduceBEq, Nat.reduceBNe, Int.reduceToNat, Int.reduceLT, Int.reduceLE, Int.reduceNeg, reduceCtorEq, Int.reduceEq, Int.reduceNe]
    · simp -dsimp -implicitDefEqProofs (maxSteps := 1000000) only [go_sem, ↓reduceIte, Nat.reduceAdd, Nat.reduceSub, Nat.reduceMul, Nat.reduceLT, Nat.reduceLeDiff, Nat.reduceEqDiff, Nat.reduceBEq, Nat.reduceBNe, Int.reduceToNat, Int.reduceLT, Int.reduceLE, Int.reduceNeg, reduceCtorEq, Int.reduceEq, Int.reduceNe]
      refine ⟨renL_one ?_, renL_cl rfl (clRows _)⟩
      simp -dsimp -implicitDefEqProofs (maxSteps := 1000000) only [go_sem, ↓reduceIte, Nat.reduceAdd, Nat.reduceSub, Nat.reduceMul, Nat.reduceLT, Nat.reduceLeDiff, Nat.reduceEqDiff, Nat.reduceBEq, Nat.reduceBNe, Int.reduceToNat, Int.reduceLT, Int.reduceLE, Int.reduceNeg, reduceCtorEq, Int.reduceEq, Int.reduceNe, List.length_map, List.length_take]
      omega
  · simp -dsimp -implicitDefEqProofs (maxSteps := 1000000) only [go_sem, ↓reduceIte, Nat.reduceAdd, Nat.reduceSub, Nat.reduceMul, Nat.reduceLT, Nat.reduceLeDiff, Nat.reduceEqDiff, Nat.reduceBEq, Nat.reduceBNe, Int.reduceToNat, Int.reduceLT, Int.reduceLE, Int.reduceNeg, reduceCtorEq, Int.reduceEq, Int.reduceNe, List.length_map, List.take_length, Nat.zero_add, Nat.le_refl]
theorem collect89 (g : Nat) (caps : List AV) (hc : ∀ x ∈ caps, Cl x) (l : List (List Int)) (hl : l.length < 2 ^ 36) (hfz : ∀ H, caps.map (frzA H 2) = caps) (hnm : ∀ H, caps.flatMap (namesA H 2) = []) (h : ISeq Tryd.prog g caps (l.map rowC)) : RFun Tryd.prog 89 [.fn g caps] 1 (l.map rowC) (.sl 0 0 l.length) := by
  refine RFun.intro 400 0 mixed Tryd.func89 (by kernel_rfl) rfl (clRows _) (Nat.le_of_ble_eq_true rfl) ?_; rw [Tryd.ntmps89, Tryd.results89]
  simp -dsimp -implicitDefEqProofs (maxSteps := 1000000) only [go_sem, ↓reduceIte, Nat.reduceAdd, Nat.reduceSub, Nat.reduceMul, Nat.reduceLT, Nat.reduceLeDiff, Nat.reduceEqDiff, Nat.reduceBEq, Nat.reduceBNe, Int.reduceToNat, Int.reduceLT, Int.reduceLE, Int.reduceNeg, reduceCtorEq, Int.reduceEq, Int.reduceNe]
  have hap : NFun Tryd.prog 103 [.v (.slice none 0 0), .fn g caps] 1 (l.map rowC) := by rw [NFun, List.length_map]; exact append103 g caps hc l hl hfz hnm h
  refine AtFn.new hap ?_
  simp -dsimp -implicitDefEqProofs (maxSteps := 1000000) only [go_sem, ↓reduceIte, Nat.reduceAdd, Nat.reduceSub, Nat.reduceMul, Nat.reduceLT, Nat.reduceLeDiff, Nat.reduceEqDiff, Nat.reduceBEq, Nat.reduceBNe, Int.reduceToNat, Int.reduceLT, Int.reduceLE, Int.reduceNeg, reduceCtorEq, Int.reduceEq, Int.reduceNe, hfz, hnm, List.length_map]
  exact hc
/-- Reversed from both ends so far. -/
def revP {α : Type} (z : α) (C : List α) (i : Nat) : List α := (List.range C.length).map fun k => if k < i ∨ C.length - i ≤ k then C.getD (C.length - 1 - k) z else C.getD k z
theorem revP_0 {α : Type} (z : α) (C : List α) : revP z C 0 = C := by
  unfold revP
  refine List.ext_getElem? fun k => ?_
  rw [List.getElem?_map]
  by_cases hk : k < C.length
  · rw [List.getElem?_range hk, Option.map_some, if_neg (by omega), List.getD, List.getElem?_eq_getElem hk]; rfl
  · rw [List.getElem?_eq_none (by simp; omega), List.getElem?_eq_none (by omega)]; rfl
theorem revP_len {α : Type} (z : α) (C : List α) (i : Nat) : (revP z C i).length = C.length := by simp [revP]
theorem revP_n {α : Type} (z : α) (C : List α) (i : Nat) (h : C.length ≤ 2 * i + 1) : revP z C i = C.reverse := by
  unfold revP
  refine List.ext_getElem? fun k => ?_
  rw [List.getElem?_map]
  by_cases hk : k < C.length
  · rw [List.getElem?_range hk, List.getElem?_reverse hk, Option.map_some]
    have e1 : C[C.length - 1 - k]? = some (C.getD (C.length - 1 - k) z) := by rw [List.getD, List.getElem?_eq_getElem (by omega)]; rfl
    rw [e1]
    split
    · rfl
    · rw [show C.length - 1 - k = k by omega]
  · rw [List.getElem?_eq_none (by simp; omega), List.getElem?_eq_none (by simp; omega)]; rfl
theorem revP_get {α : Type} (z : α) (C : List α) (i k : Nat) (h1 : i ≤ k) (h2 : k < C.length - i) : (revP z C i)[k]? = some (C.getD k z) := by
  unfold revP
  rw [List.getElem?_map, List.getElem?_range (by omega), Option.map_some, if_neg (by omega)]
theorem revP_set {α : Type} (z : α) (C : List α) (i j : Nat) (hj : i + j + 1 = C.length) (hij : i < j) : ((revP z C i).set i (C.getD j z)).set j (C.getD i z) = revP z C (i + 1) := by
  unfold revP
  refine List.ext_getElem? fun k => ?_
  rw [List.getElem?_set, List.getElem?_set]
  by_cases hk : k < C.length
  · simp only [List.length_set, List.length_map, List.length_range, List.getElem?_map, List.getElem?_range hk, Option.map_some]
    by_cases h1 : j = k
    · subst h1
      rw [if_pos rfl, if_pos hk, if_pos (by omega), show C.length - 1 - j = i by omega]
    · rw [if_neg h1]
      by_cases h2 : i = k
      · subst h2
        rw [if_pos rfl, if_pos hk, if_pos (by omega), show C.length - 1 - i = j by omega]
      · rw [if_neg h2]
        by_cases h3 : k < i ∨ C.length - i ≤ k
        · rw [if_pos h3, if_pos (by omega)]
        · rw [if_neg h3, if_neg (by omega)]
  · simp only [List.length_set, List.length_map, List.length_range]
    rw [if_neg (by omega), if_neg (by omega)]
    rw [List.getElem?_eq_none (by simp; omega), List.getElem?_eq_none (by simp; omega)]
theorem reverse90 (l : List (List Int)) (hl0 : l ≠ []) (hl : l.length ≤ 4294967296) : MFun Tryd.prog 90 [.sl 0 0 l.length] [(0, ⟨1, l.map rowC⟩)] 1 none [0] (.t []) [(0, ⟨1, l.reverse.map rowC⟩)] 1 none := by
  have hlp : 1 ≤ l.length := by cases l with | nil => exact absurd rfl hl0 | cons _ _ => simp
  have e0 := wrS1 hlp (by omega)
  refine MFun.intro2 400 [] mixed Tryd.func90 (by kernel_rfl) rfl (by rw [Tryd.results90]; rfl) (Nat.le_of_ble_eq_true rfl) ?_; rw [Tryd.ntmps90]
  simp -dsimp -implicitDefEqProofs (maxSteps := 1000000) only [go_sem, ↓reduceIte, Nat.reduceAdd, Nat.reduceSub, Nat.reduceMul, Nat.reduceLT, Nat.reduceLeDiff, Nat.reduceEqDiff, Nat.reduceBEq, Nat.reduceBNe, Int.reduceToNat, Int.reduceLT, Int.reduceLE, Int.reduceNeg, reduceCtorEq, Int.reduceEq, Int.reduceNe, e0]
  refine ⟨{i : Nat // 2 * i ≤ l.length}, fun i => ⟨28, tl [(0, .sl 0 0 l.length), (2, I i.1), (3, I ((l.length : Int) - 1 - i.1))], [(0, ⟨1, (revP [] l i.1).map rowC⟩)], 1, ⟨[tl [(0, .sl 0 0 l.length)]], some (.mp none)⟩⟩, fun i => l.length - i.1,
    ⟨⟨0, by omega⟩, Le.tl (Ls := [[(0, .sl 0 0 l.length)]]) [] ?_ ?_ (by simp) (by simp [sg]) ⟨by simp -dsimp -implicitDefEqProofs (maxSteps := 1000000) only [go_sem, ↓reduceIte, Nat.reduceAdd, Nat.reduceSub, Nat.reduceMul, Nat.reduceLT, Nat.reduceLeDiff, Nat.reduceEqDiff, Nat.reduceBEq, Nat.reduceBNe, Int.reduceToNat, Int.reduceLT, Int.reduceLE, Int.reduceNeg, reduceCtorEq, Int.reduceEq, Int.reduceNe], trivial⟩⟩, fun i => ?_⟩
  · simp -dsimp -implicitDefEqProofs (maxSteps := 1000000) only [go_sem, ↓reduceIte, Nat.reduceAdd, Nat.reduceSub, Nat.reduceMul, Nat.reduceLT, Nat.reduceLeDiff, Nat.reduceEqDiff, Nat.reduceBEq, Nat.reduceBNe, Int.reduceToNat, Int.reduceLT, Int.reduceLE, Int.reduceNeg, reduceCtorEq, Int.reduceEq, Int.reduceNe]
    congr 1
    omega
  · simp -dsimp -implicitDefEqProofs (maxSteps := 1000000) only [go_sem, ↓reduceIte, Nat.reduceAdd, Nat.reduceSub, Nat.reduceMul, Nat.reduceLT, Nat.reduceLeDiff, Nat.reduceEqDiff, Nat.reduceBEq, Nat.reduceBNe, Int.reduceToNat, Int.reduceLT, Int.reduceLE, Int.reduceNeg, reduceCtorEq, Int.reduceEq, Int.reduceNe]
    exact renL_cl2 (by rw [revP_0]) (clRows _)
  obtain ⟨i, hi⟩ := i
  simp -dsimp -implicitDefEqProofs (maxSteps := 1000000) only [go_sem, ↓reduceIte, Nat.reduceAdd, Nat.reduceSub, Nat.reduceMul, Nat.reduceLT, Nat.reduceLeDiff, Nat.reduceEqDiff, Nat.reduceBEq, Nat.reduceBNe, Int.reduceToNat, Int.reduceLT, Int.reduceLE, Int.reduceNeg, reduceCtorEq, Int.reduceEq, Int.reduceNe]
  refine ⟨fun h => ?_, fun h => ?_⟩
  · obtain ⟨j, hj⟩ : ∃ j : Nat, (l.length : Int) - 1 - i = (j : Int) := Int.eq_ofNat_of_zero_le (by omega)
    rw [hj] at h ⊢
    have g1 := revP_get [] l i i (by omega) (by omega)
    have g2 := revP_get [] l i j (by omega) (by omega)
    have c1 : (i : Int) < (l.length : Int) := by omega
    have c2 : (j : Int) < (l.length : Int) := by omega
    have g3 : ∀ x : List AV, (((revP [] l i).map rowC).set i x)[j]? = some (rowC (l.getD j [])) := fun x => by
      rw [List.getElem?_set_ne (by omega), List.getElem?_map, g2]; rfl
    have e1 : wr ((i : Int) + 1) = ((i + 1 : Nat) : Int) := wrA1 (by omega)
    have e2 : wr ((j : Int) - 1) = (l.length : Int) - 1 - ((i + 1 : Nat) : Int) := by rw [wr_in] <;> omega
    refine AtCode.drawB 13 [([], []), ([], []), ([], [0]), ([], [0]), ([], []), ([], []), ([4, 5], []), ([4, 5, 6], []), ([], []), ([], []), ([8, 9], []), ([8, 9, 10], []), ([0, 1, 4, 5, 6, 7, 8, 9, 10, 11], []), ([0, 1, 4, 5, 6, 7, 8, 9, 10, 11, 12], []), ([0, 1, 2, 3, 4, 5, 6, 7, 8, 9, 10, 11, 12, 13], []), ([0, 1, 2, 3, 4, 5, 6, 7, 8, 9, 10, 11, 12, 13, 14], [])] [false, true, true] (by kernel_rfl) ?_
    simp -dsimp -implicitDefEqProofs (maxSteps := 1000000) only [go_sem, ↓reduceIte, Nat.reduceAdd, Nat.reduceSub, Nat.reduceMul, Nat.reduceLT, Nat.reduceLeDiff, Nat.reduceEqDiff, Nat.reduceBEq, Nat.reduceBNe, Int.reduceToNat, Int.reduceLT, Int.reduceLE, Int.reduceNeg, reduceCtorEq, Int.reduceEq, Int.reduceNe, List.length_map, revP_len, List.getElem?_map, Int.natCast_nonneg, Int.toNat_natCast, Nat.zero_add, g1, g2, g3, c1, c2]
    refine ⟨by kernel_rfl, ⟨i + 1, by omega⟩, by show l.length - (i + 1) < l.length - i; omega, Le.tl (Ls := [[(0, .sl 0 0 l.length)]]) [] (by simp -dsimp -implicitDefEqProofs (maxSteps := 1000000) only [go_sem, ↓reduceIte, Nat.reduceAdd, Nat.reduceSub, Nat.reduceMul, Nat.reduceLT, Nat.reduceLeDiff, Nat.reduceEqDiff, Nat.reduceBEq, Nat.reduceBNe, Int.reduceToNat, Int.reduceLT, Int.reduceLE, Int.reduceNeg, reduceCtorEq, Int.reduceEq, Int.reduceNe, e1, e2]) ?_ (by simp) (by simp [sg]) ⟨by simp -dsimp -implicitDefEqProofs (maxSteps := 1000000) only [go_sem, ↓reduceIte, Nat.reduceAdd, Nat.reduceSub, Nat.reduceMul, Nat.reduceLT, Nat.reduceLeDiff, Nat.reduceEqDiff, Nat.reduceBEq, Nat.reduceBNe, Int.reduceToNat, Int.reduceLT, Int.reduceLE, Int.reduceNeg, reduceCtorEq, Int.reduceEq, Int.reduceNe], trivial⟩⟩
    simp -dsimp -implicitDefEqProofs (maxSteps := 1000000) only [go_sem, ↓reduceIte, Nat.reduceAdd, Nat.reduceSub, Nat.reduceMul, Nat.reduceLT, Nat.reduceLeDiff, Nat.reduceEqDiff, Nat.reduceBEq, Nat.reduceBNe, Int.reduceToNat, Int.reduceLT, Int.reduceLE, Int.reduceNeg, reduceCtorEq, Int.reduceEq, Int.reduceNe]
    refine renL_cl2 ?_ (clRows _)
    rw [← revP_set [] l i j (by omega) (by omega), List.map_set, List.map_set]
  · refine FinM2.mkv [] [(0, .sl 0 0 l.length)] ?_ ?_ ?_ ?_ ?_
    · simp -dsimp -implicitDefEqProofs (maxSteps := 1000000) only [go_sem, ↓reduceIte, Nat.reduceAdd, Nat.reduceSub, Nat.reduceMul, Nat.reduceLT, Nat.reduceLeDiff, Nat.reduceEqDiff, Nat.reduceBEq, Nat.reduceBNe, Int.reduceToNat, Int.reduceLT, Int.reduceLE, Int.reduceNeg, reduceCtorEq, Int.reduceEq, Int.reduceNe]
      exact renL_cl2 (by rw [revP_n _ _ _ (by omega)]) (clRows _)
    · simp
    · simp [sg]
    · simp -dsimp -implicitDefEqProofs (maxSteps := 1000000) only [go_sem, ↓reduceIte, Nat.reduceAdd, Nat.reduceSub, Nat.reduceMul, Nat.reduceLT, Nat.reduceLeDiff, Nat.reduceEqDiff, Nat.reduceBEq, Nat.reduceBNe, Int.reduceToNat, Int.reduceLT, Int.reduceLE, Int.reduceNeg, reduceCtorEq, Int.reduceEq, Int.reduceNe]
    · simp only [List.mem_singleton, forall_eq]
      have hne : l.map rowC ≠ [] := by simpa using hl0
      have hne2 : l.reverse.map rowC ≠ [] := by simpa using hl0
      exact ⟨0, 0, l.length - 1, _, _, by rw [Nat.sub_add_cancel (by omega)]; rfl, by rw [Nat.sub_add_cancel (by omega)]; simp -dsimp -implicitDefEqProofs (maxSteps := 1000000) only [go_sem, ↓reduceIte, Nat.reduceAdd, Nat.reduceSub, Nat.reduceMul, Nat.reduceLT, Nat.reduceLeDiff, Nat.reduceEqDiff, Nat.reduceBEq, Nat.reduceBNe, Int.reduceToNat, Int.reduceLT, Int.reduceLE, Int.reduceNeg, reduceCtorEq, Int.reduceEq, Int.reduceNe], rfl, rfl, rfl, hne, hne2⟩
/-- The rows of a raster, the uppermost first. -/
def rowsP (w : Nat) (p : List Int) : List (List Int) := (chunkL w p).reverse
theorem chunkL_len {α : Type} (n : Nat) (l : List α) : (chunkL n l).length = (l.length + n - 1) / n := by simp [chunkL]
theorem rows63 (w : Nat) (h : Int) (p : List Int) (w1 : 1 ≤ w) (w2 : w ≤ 65536) (hp1 : 1 ≤ p.length) (hp : p.length ≤ 65536) : NFun Tryd.prog 63 [.g [I w, I h, .ro 1 (pxC p)]] 1 ((rowsP w p).map rowC) := by
  refine MFun.toN ?_ (clRows _)
  have hch := chunk56 p w w1
  have hsq := chunk86 p w w1 w2 (by omega)
  have hlen := chunkL_len w p
  have hl2 : (chunkL w p).length ≤ 65536 := by
    rw [hlen]
    have : (p.length + w - 1) / w ≤ p.length := by
      have := Nat.div_mul_le_self (p.length + w - 1) w
      rcases Nat.lt_or_ge p.length ((p.length + w - 1) / w) with h1 | h1
      · exfalso
        have := (chunk_lt (n := w) (q := p.length) (L := p.length) w1).2 h1
        have := Nat.mul_le_mul_left p.length w1
        omega
      · exact h1
    omega
  have hl0 : chunkL w p ≠ [] := by
    intro e
    have : 0 < (p.length + w - 1) / w := (chunk_lt (n := w) (q := 0) (L := p.length) w1).1 (by omega)
    rw [← hlen, e] at this
    exact absurd this (Nat.lt_irrefl 0)
  have hco : NFun Tryd.prog 89 [.fn 86 [.rp [.ro 1 (pxC p)] 0, .rp [I (w : Int)] 0]] 1 ((chunkL w p).map rowC) := by
    rw [NFun, List.length_map]
    exact collect89 86 _ (by simp [Cl_rp, Cl_ro, Cl_v, clPxT]) (chunkL w p) (by omega) (fun _ => rfl) (fun _ => rfl) hsq
  refine MFun.intro 400 [2] mixed Tryd.func63 (by kernel_rfl) rfl (by rw [Tryd.results63]; rfl) (Nat.le_of_ble_eq_true rfl) ?_; rw [Tryd.ntmps63]
  simp -dsimp -implicitDefEqProofs (maxSteps := 1000000) only [go_sem, ↓reduceIte, Nat.reduceAdd, Nat.reduceSub, Nat.reduceMul, Nat.reduceLT, Nat.reduceLeDiff, Nat.reduceEqDiff, Nat.reduceBEq, Nat.reduceBNe, Int.reduceToNat, Int.reduceLT, Int.reduceLE, Int.reduceNeg, reduceCtorEq, Int.reduceEq, Int.reduceNe]
  refine AtFn.pure0 hch ?_
  simp -dsimp -implicitDefEqProofs (maxSteps := 1000000) only [go_sem, ↓reduceIte, Nat.reduceAdd, Nat.reduceSub, Nat.reduceMul, Nat.reduceLT, Nat.reduceLeDiff, Nat.reduceEqDiff, Nat.reduceBEq, Nat.reduceBNe, Int.reduceToNat, Int.reduceLT, Int.reduceLE, Int.reduceNeg, reduceCtorEq, Int.reduceEq, Int.reduceNe]
  refine AtFn.new hco ?_
  simp -dsimp -implicitDefEqProofs (maxSteps := 1000000) only [go_sem, ↓reduceIte, Nat.reduceAdd, Nat.reduceSub, Nat.reduceMul, Nat.reduceLT, Nat.reduceLeDiff, Nat.reduceEqDiff, Nat.reduceBEq, Nat.reduceBNe, Int.reduceToNat, Int.reduceLT, Int.reduceLE, Int.reduceNeg, reduceCtorEq, Int.reduceEq, Int.reduceNe, List.length_map]
  have hrv := reverse90 (chunkL w p) hl0 (by omega)
  obtain ⟨m, hm⟩ : ∃ m, m = (chunkL w p).length := ⟨_, rfl⟩
  rw [← hm] at hrv ⊢
  refine AtFn.le ⟨13, tl [(3, .sl 0 0 m), (10, .sl 0 0 m)], [(0, ⟨1, (chunkL w p).map rowC⟩)], 1, ⟨[tl []], some (.mp none)⟩⟩ [.sl 0 0 m] (Le.tl (Ls := [[]]) [(0, 1)] (by simp -dsimp -implicitDefEqProofs (maxSteps := 1000000) only [go_sem, ↓reduceIte, Nat.reduceAdd, Nat.reduceSub, Nat.reduceMul, Nat.reduceLT, Nat.reduceLeDiff, Nat.reduceEqDiff, Nat.reduceBEq, Nat.reduceBNe, Int.reduceToNat, Int.reduceLT, Int.reduceLE, Int.reduceNeg, reduceCtorEq, Int.reduceEq, Int.reduceNe]) ?_ (by simp) (by simp [sg]) ⟨by simp -dsimp -implicitDefEqProofs (maxSteps := 1000000) only [go_sem, ↓reduceIte, Nat.reduceAdd, Nat.reduceSub, Nat.reduceMul, Nat.reduceLT, Nat.reduceLeDiff, Nat.reduceEqDiff, Nat.reduceBEq, Nat.reduceBNe, Int.reduceToNat, Int.reduceLT, Int.reduceLE, Int.reduceNeg, reduceCtorEq, Int.reduceEq, Int.reduceNe], trivial⟩) (by intro fo xs ts h; cases h; exact ⟨by simp -dsimp -implicitDefEqProofs (maxSteps := 1000000) only [go_sem, ↓reduceIte, Nat.reduceAdd, Nat.reduceSub, Nat.reduceMul, Nat.reduceLT, Nat.reduceLeDiff, Nat.reduceEqDiff, Nat.reduceBEq, Nat.reduceBNe, Int.reduceToNat, Int.reduceLT, Int.reduceLE, Int.reduceNeg, reduceCtorEq, Int.reduceEq, Int.reduceNe], by simp -dsimp -implicitDefEqProofs (maxSteps := 1000000) only [go_sem, ↓reduceIte, Nat.reduceAdd, Nat.reduceSub, Nat.reduceMul, Nat.reduceLT, Nat.reduceLeDiff, Nat.reduceEqDiff, Nat.reduceBEq, Nat.reduceBNe, Int.reduceToNat, Int.reduceLT, Int.reduceLE, Int.reduceNeg, reduceCtorEq, Int.reduceEq, Int.reduceNe]⟩) ?_
  · simp -dsimp -implicitDefEqProofs (maxSteps := 1000000) only [go_sem, ↓reduceIte, Nat.reduceAdd, Nat.reduceSub, Nat.reduceMul, Nat.reduceLT, Nat.reduceLeDiff, Nat.reduceEqDiff, Nat.reduceBEq, Nat.reduceBNe, Int.reduceToNat, Int.reduceLT, Int.reduceLE, Int.reduceNeg, reduceCtorEq, Int.reduceEq, Int.reduceNe]
    exact renL_cl rfl (clRows _)
  refine AtFn.m' (h0 := [(0, ⟨1, (chunkL w p).map rowC⟩)]) (hr := []) (k' := 1) id hrv (MOk.id (Ls := [[]]) (by simp) (by simp -dsimp -implicitDefEqProofs (maxSteps := 1000000) only [go_sem, ↓reduceIte, Nat.reduceAdd, Nat.reduceSub, Nat.reduceMul, Nat.reduceLT, Nat.reduceLeDiff, Nat.reduceEqDiff, Nat.reduceBEq, Nat.reduceBNe, Int.reduceToNat, Int.reduceLT, Int.reduceLE, Int.reduceNeg, reduceCtorEq, Int.reduceEq, Int.reduceNe, id_eq]) ?_ (by simp -dsimp -implicitDefEqProofs (maxSteps := 1000000) only [go_sem, ↓reduceIte, Nat.reduceAdd, Nat.reduceSub, Nat.reduceMul, Nat.reduceLT, Nat.reduceLeDiff, Nat.reduceEqDiff, Nat.reduceBEq, Nat.reduceBNe, Int.reduceToNat, Int.reduceLT, Int.reduceLE, Int.reduceNeg, reduceCtorEq, Int.reduceEq, Int.reduceNe, id_eq]) (by simp -dsimp -implicitDefEqProofs (maxSteps := 1000000) only [go_sem, ↓reduceIte, Nat.reduceAdd, Nat.reduceSub, Nat.reduceMul, Nat.reduceLT, Nat.reduceLeDiff, Nat.reduceEqDiff, Nat.reduceBEq, Nat.reduceBNe, Int.reduceToNat, Int.reduceLT, Int.reduceLE, Int.reduceNeg, reduceCtorEq, Int.reduceEq, Int.reduceNe, id_eq]) ?_ (by simp) ?_ (.cl (by simp [Cl_t])) (by simp) (by simp) (by simp)) ?_
  · simp -dsimp -implicitDefEqProofs (maxSteps := 1000000) only [go_sem, ↓reduceIte, Nat.reduceAdd, Nat.reduceSub, Nat.reduceMul, Nat.reduceLT, Nat.reduceLeDiff, Nat.reduceEqDiff, Nat.reduceBEq, Nat.reduceBNe, Int.reduceToNat, Int.reduceLT, Int.reduceLE, Int.reduceNeg, reduceCtorEq, Int.reduceEq, Int.reduceNe, id_eq]
    exact renL_cl rfl (clRows _)
  · simp -dsimp -implicitDefEqProofs (maxSteps := 1000000) only [go_sem, ↓reduceIte, Nat.reduceAdd, Nat.reduceSub, Nat.reduceMul, Nat.reduceLT, Nat.reduceLeDiff, Nat.reduceEqDiff, Nat.reduceBEq, Nat.reduceBNe, Int.reduceToNat, Int.reduceLT, Int.reduceLE, Int.reduceNeg, reduceCtorEq, Int.reduceEq, Int.reduceNe, id_eq]
  · simp -dsimp -implicitDefEqProofs (maxSteps := 1000000) only [go_sem, ↓reduceIte, Nat.reduceAdd, Nat.reduceSub, Nat.reduceMul, Nat.reduceLT, Nat.reduceLeDiff, Nat.reduceEqDiff, Nat.reduceBEq, Nat.reduceBNe, Int.reduceToNat, Int.reduceLT, Int.reduceLE, Int.reduceNeg, reduceCtorEq, Int.reduceEq, Int.reduceNe, id_eq]
    exact renL_cl rfl (clRows _)
  simp -dsimp -implicitDefEqProofs (maxSteps := 1000000) only [go_sem, ↓reduceIte, Nat.reduceAdd, Nat.reduceSub, Nat.reduceMul, Nat.reduceLT, Nat.reduceLeDiff, Nat.reduceEqDiff, Nat.reduceBEq, Nat.reduceBNe, Int.reduceToNat, Int.reduceLT, Int.reduceLE, Int.reduceNeg, reduceCtorEq, Int.reduceEq, Int.reduceNe]
  have hr : (rowsP w p).length = m := by unfold rowsP; rw [List.length_reverse, hm]
  rw [hr]
  exact FinM.mk0 [] (by simp -dsimp -implicitDefEqProofs (maxSteps := 1000000) only [go_sem, ↓reduceIte, Nat.reduceAdd, Nat.reduceSub, Nat.reduceMul, Nat.reduceLT, Nat.reduceLeDiff, Nat.reduceEqDiff, Nat.reduceBEq, Nat.reduceBNe, Int.reduceToNat, Int.reduceLT, Int.reduceLE, Int.reduceNeg, reduceCtorEq, Int.reduceEq, Int.reduceNe]) (by simp -dsimp -implicitDefEqProofs (maxSteps := 1000000) only [go_sem, ↓reduceIte, Nat.reduceAdd, Nat.reduceSub, Nat.reduceMul, Nat.reduceLT, Nat.reduceLeDiff, Nat.reduceEqDiff, Nat.reduceBEq, Nat.reduceBNe, Int.reduceToNat, Int.reduceLT, Int.reduceLE, Int.reduceNeg, reduceCtorEq, Int.reduceEq, Int.reduceNe]; exact renL_cl rfl (clRows _)) (by simp) (by simp [sg])
end

section
set_option maxRecDepth 20000
attribute [local go_sem] clPxT
theorem byC_len (l : List UInt8) : (byC l).length = l.length := by simp [byC]
theorem takeBy (l : List UInt8) : takeA 0 l.length (byC l) = byC l := by rw [takeA_eq, List.drop_zero, List.take_of_length_le (by rw [byC_len]; exact Nat.le_refl _)]
theorem clBy (l : List UInt8) : ∀ c ∈ byC l, ∀ s ∈ c, Cl s := fun c hc s hs => by
  obtain ⟨x, _, rfl⟩ := List.mem_map.1 hc
  rw [List.mem_singleton.1 hs]; exact .v _
theorem oneBy (l : List UInt8) : (∀ c ∈ byC l, ∀ s ∈ c, oneA s = true) ↔ True := iff_true_intro fun c hc s hs => by
  obtain ⟨x, _, rfl⟩ := List.mem_map.1 hc
  rw [List.mem_singleton.1 hs]; rfl
theorem byC_app (T : List UInt8) (l : List UInt8) : byC T ++ List.map (fun b => [AV.v (Value.int IntKind.u8 (b.toNat : Int))]) l = byC (T ++ l) := by simp [byC]
theorem byC_app2 (T l : List UInt8) : byC T ++ byC l = byC (T ++ l) := by simp [byC]
theorem byC_app0 (l : List UInt8) : List.map (fun b => [AV.v (Value.int IntKind.u8 (b.toNat : Int))]) l = byC l := rfl
theorem hp80 : ∃ d, Tryd.prog.underlying 80 = some (TypeDesc.pointer d) ∧ 0 < szT Tryd.prog d := ⟨82, by kernel_rfl, by rw [show szT Tryd.prog 82 = 2 by kernel_rfl]; decide⟩
abbrev nilI : AV := ofV Value.nilIface
theorem size_len (s : ByteArray) : s.data.toList.length = s.size := by rw [Array.length_toList]; rfl
theorem ws64u {rec : List It → (AState → Prop) → AState → Prop} {o : Oper} {k : List It} {Q : AState → Prop} {t : Nat → AV} {sv : List (Nat → AV)} (X0 X2 : Blk) (T : List UInt8) (s : ByteArray) (hT : T ≠ []) (hl : T.length + s.size ≤ 1073741824)
    (h100 : t 100 = .tb 1 82) (h101 : t 101 = .tb 3 5)
    (hk : rec k Q (putA ⟨46, upd t 101 (.tb 4 5), [(4, ⟨1, byC (T ++ s.data.toList)⟩), (1, ⟨2, [[.ptr 1 0 0, .sl 4 0 (T ++ s.data.toList).length]]⟩), (2, X2), (0, X0)], 5, ⟨sv, some (.mp none)⟩⟩ o.dst (.t [I s.size, nilI]))) :
    AtFn Tryd.prog rec o 64 [.ptr 1 0 0, .v (.string s)] k Q ⟨46, t, [(1, ⟨2, [[.ptr 1 0 0, .sl 3 0 T.length]]⟩), (2, X2), (0, X0), (3, ⟨1, byC T⟩)], 4, ⟨sv, some (.mp none)⟩⟩ := by
  refine AtFn.inl 400 [4,5] mixed Tryd.func64 (by kernel_rfl) rfl (by rw [Tryd.results64]; rfl) (Nat.le_of_ble_eq_true rfl) ?_; rw [Tryd.ntmps64]
  simp -dsimp -implicitDefEqProofs (maxSteps := 1000000) only [go_sem, ↓reduceIte, Nat.reduceAdd, Nat.reduceSub, Nat.reduceMul, Nat.reduceLT, Nat.reduceLeDiff, Nat.reduceEqDiff, Nat.reduceBEq, Nat.reduceBNe, Int.reduceToNat, Int.reduceLT, Int.reduceLE, Int.reduceNeg, reduceCtorEq, Int.reduceEq, Int.reduceNe]
  refine AtFn.inl 400 [] mixed Tryd.func91 (by kernel_rfl) rfl (by rw [Tryd.results91]; rfl) (Nat.le_of_ble_eq_true rfl) ?_; rw [Tryd.ntmps91]
  simp -dsimp -implicitDefEqProofs (maxSteps := 1000000) only [go_sem, ↓reduceIte, Nat.reduceAdd, Nat.reduceSub, Nat.reduceMul, Nat.reduceLT, Nat.reduceLeDiff, Nat.reduceEqDiff, Nat.reduceBEq, Nat.reduceBNe, Int.reduceToNat, Int.reduceLT, Int.reduceLE, Int.reduceNeg, reduceCtorEq, Int.reduceEq, Int.reduceNe]
  refine ⟨hp80, hp80, ?_⟩
  refine AtOp.apTE (e := 5) 1 101 rfl (by kernel_rfl) (by kernel_rfl) (by simp -dsimp -implicitDefEqProofs (maxSteps := 1000000) only [go_sem, ↓reduceIte, Nat.reduceAdd, Nat.reduceSub, Nat.reduceMul, Nat.reduceLT, Nat.reduceLeDiff, Nat.reduceEqDiff, Nat.reduceBEq, Nat.reduceBNe, Int.reduceToNat, Int.reduceLT, Int.reduceLE, Int.reduceNeg, reduceCtorEq, Int.reduceEq, Int.reduceNe]; intro n i len h; cases h; rfl) ?_
  have hpos : 0 < (T ++ s.data.toList).length := by
    rw [List.length_append]
    have : 0 < T.length := List.length_pos_iff.2 hT
    omega
  simp -dsimp -implicitDefEqProofs (maxSteps := 1000000) only [go_sem, ↓reduceIte, Nat.reduceAdd, Nat.reduceSub, Nat.reduceMul, Nat.reduceLT, Nat.reduceLeDiff, Nat.reduceEqDiff, Nat.reduceBEq, Nat.reduceBNe, Int.reduceToNat, Int.reduceLT, Int.reduceLE, Int.reduceNeg, reduceCtorEq, Int.reduceEq, Int.reduceNe, byC_app0, byC_app, byC_app2, byC_len, takeBy, oneBy, Nat.zero_add, Nat.le_refl]
  exact ⟨by rw [size_len]; omega, ⟨.inr ⟨0, t, 101, rfl, h101⟩, hpos⟩, hk⟩
theorem ws64f {rec : List It → (AState → Prop) → AState → Prop} {o : Oper} {k : List It} {Q : AState → Prop} {t : Nat → AV} {sv : List (Nat → AV)} (X0 X2 : Blk) (s : ByteArray) (hs : s.size ≠ 0) (hl : s.size ≤ 1073741824)
    (h100 : t 100 = .tb 1 82)
    (hk : rec k Q (putA ⟨46, upd t 101 (.tb 4 5), [(4, ⟨1, byC s.data.toList⟩), (1, ⟨2, [[.ptr 1 0 0, .sl 4 0 s.data.toList.length]]⟩), (2, X2), (0, X0)], 5, ⟨sv, some (.mp none)⟩⟩ o.dst (.t [I s.size, nilI]))) :
    AtFn Tryd.prog rec o 64 [.ptr 1 0 0, .v (.string s)] k Q ⟨46, t, [(1, ⟨2, [[.v (.pointer none), .v (.slice none 0 0)]]⟩), (2, X2), (0, X0)], 4, ⟨sv, some (.mp none)⟩⟩ := by
  refine AtFn.inl 400 [4,5] mixed Tryd.func64 (by kernel_rfl) rfl (by rw [Tryd.results64]; rfl) (Nat.le_of_ble_eq_true rfl) ?_; rw [Tryd.ntmps64]
  simp -dsimp -implicitDefEqProofs (maxSteps := 1000000) only [go_sem, ↓reduceIte, Nat.reduceAdd, Nat.reduceSub, Nat.reduceMul, Nat.reduceLT, Nat.reduceLeDiff, Nat.reduceEqDiff, Nat.reduceBEq, Nat.reduceBNe, Int.reduceToNat, Int.reduceLT, Int.reduceLE, Int.reduceNeg, reduceCtorEq, Int.reduceEq, Int.reduceNe]
  refine AtFn.inl 400 [] mixed Tryd.func91 (by kernel_rfl) rfl (by rw [Tryd.results91]; rfl) (Nat.le_of_ble_eq_true rfl) ?_; rw [Tryd.ntmps91]
  simp -dsimp -implicitDefEqProofs (maxSteps := 1000000) only [go_sem, ↓reduceIte, Nat.reduceAdd, Nat.reduceSub, Nat.reduceMul, Nat.reduceLT, Nat.reduceLeDiff, Nat.reduceEqDiff, Nat.reduceBEq, Nat.reduceBNe, Int.reduceToNat, Int.reduceLT, Int.reduceLE, Int.reduceNeg, reduceCtorEq, Int.reduceEq, Int.reduceNe]
  refine ⟨hp80, ?_⟩
  refine AtOp.toU (T := 82) (T2 := 82) rfl (by kernel_rfl) (by kernel_rfl) (by kernel_rfl) (by simp -dsimp -implicitDefEqProofs (maxSteps := 1000000) only [go_sem, ↓reduceIte, Nat.reduceAdd, Nat.reduceSub, Nat.reduceMul, Nat.reduceLT, Nat.reduceLeDiff, Nat.reduceEqDiff, Nat.reduceBEq, Nat.reduceBNe, Int.reduceToNat, Int.reduceLT, Int.reduceLE, Int.reduceNeg, reduceCtorEq, Int.reduceEq, Int.reduceNe]) (.inr ⟨1, t, 100, rfl, h100⟩) (by simp -dsimp -implicitDefEqProofs (maxSteps := 1000000) only [go_sem, ↓reduceIte, Nat.reduceAdd, Nat.reduceSub, Nat.reduceMul, Nat.reduceLT, Nat.reduceLeDiff, Nat.reduceEqDiff, Nat.reduceBEq, Nat.reduceBNe, Int.reduceToNat, Int.reduceLT, Int.reduceLE, Int.reduceNeg, reduceCtorEq, Int.reduceEq, Int.reduceNe]; rfl) (by decide) ?_
  simp -dsimp -implicitDefEqProofs (maxSteps := 1000000) only [go_sem, ↓reduceIte, Nat.reduceAdd, Nat.reduceSub, Nat.reduceMul, Nat.reduceLT, Nat.reduceLeDiff, Nat.reduceEqDiff, Nat.reduceBEq, Nat.reduceBNe, Int.reduceToNat, Int.reduceLT, Int.reduceLE, Int.reduceNeg, reduceCtorEq, Int.reduceEq, Int.reduceNe]
  refine AtFn.same Tryd.func104 (by kernel_rfl) (by kernel_rfl) (by kernel_rfl) (by kernel_rfl) ?_
  simp -dsimp -implicitDefEqProofs (maxSteps := 1000000) only [go_sem, ↓reduceIte, Nat.reduceAdd, Nat.reduceSub, Nat.reduceMul, Nat.reduceLT, Nat.reduceLeDiff, Nat.reduceEqDiff, Nat.reduceBEq, Nat.reduceBNe, Int.reduceToNat, Int.reduceLT, Int.reduceLE, Int.reduceNeg, reduceCtorEq, Int.reduceEq, Int.reduceNe]
  refine AtOp.fromU (T := 82) (e2 := 2) rfl (by kernel_rfl) (by kernel_rfl) (by kernel_rfl) (by rw [show Tryd.prog.cellsOf 82 = 2 by kernel_rfl]; decide) (by rw [show Tryd.prog.cellsOf 82 = 2 by kernel_rfl]; decide) (by simp -dsimp -implicitDefEqProofs (maxSteps := 1000000) only [go_sem, ↓reduceIte, Nat.reduceAdd, Nat.reduceSub, Nat.reduceMul, Nat.reduceLT, Nat.reduceLeDiff, Nat.reduceEqDiff, Nat.reduceBEq, Nat.reduceBNe, Int.reduceToNat, Int.reduceLT, Int.reduceLE, Int.reduceNeg, reduceCtorEq, Int.reduceEq, Int.reduceNe]) (.inr ⟨1, t, 100, rfl, h100⟩) (by simp -dsimp -implicitDefEqProofs (maxSteps := 1000000) only [go_sem, ↓reduceIte, Nat.reduceAdd, Nat.reduceSub, Nat.reduceMul, Nat.reduceLT, Nat.reduceLeDiff, Nat.reduceEqDiff, Nat.reduceBEq, Nat.reduceBNe, Int.reduceToNat, Int.reduceLT, Int.reduceLE, Int.reduceNeg, reduceCtorEq, Int.reduceEq, Int.reduceNe]; rfl) ?_
  simp -dsimp -implicitDefEqProofs (maxSteps := 1000000) only [go_sem, ↓reduceIte, Nat.reduceAdd, Nat.reduceSub, Nat.reduceMul, Nat.reduceLT, Nat.reduceLeDiff, Nat.reduceEqDiff, Nat.reduceBEq, Nat.reduceBNe, Int.reduceToNat, Int.reduceLT, Int.reduceLE, Int.reduceNeg, reduceCtorEq, Int.reduceEq, Int.reduceNe]
  refine AtOp.apTE (e := 5) 1 101 rfl (by kernel_rfl) (by kernel_rfl) (by simp -dsimp -implicitDefEqProofs (maxSteps := 1000000) only [go_sem, ↓reduceIte, Nat.reduceAdd, Nat.reduceSub, Nat.reduceMul, Nat.reduceLT, Nat.reduceLeDiff, Nat.reduceEqDiff, Nat.reduceBEq, Nat.reduceBNe, Int.reduceToNat, Int.reduceLT, Int.reduceLE, Int.reduceNeg, reduceCtorEq, Int.reduceEq, Int.reduceNe]) ?_
  have hpos : 0 < s.data.toList.length := by rw [size_len]; omega
  simp -dsimp -implicitDefEqProofs (maxSteps := 1000000) only [go_sem, ↓reduceIte, Nat.reduceAdd, Nat.reduceSub, Nat.reduceMul, Nat.reduceLT, Nat.reduceLeDiff, Nat.reduceEqDiff, Nat.reduceBEq, Nat.reduceBNe, Int.reduceToNat, Int.reduceLT, Int.reduceLE, Int.reduceNeg, reduceCtorEq, Int.reduceEq, Int.reduceNe, byC_app0, byC_app, byC_app2, byC_len, takeBy, oneBy, Nat.zero_add, Nat.le_refl]
  exact ⟨by rw [size_len]; omega, hpos, hk⟩
theorem byC_snoc (T : List UInt8) : byC T ++ [[AV.v (Value.int IntKind.u8 10)]] = byC (T ++ [10]) := by simp [byC]
theorem wb65 {rec : List It → (AState → Prop) → AState → Prop} {o : Oper} {k : List It} {Q : AState → Prop} {t : Nat → AV} {sv : List (Nat → AV)} (X0 X2 : Blk) (T : List UInt8) (hT : T ≠ []) (hl : T.length ≤ 1073741824)
    (h100 : t 100 = .tb 1 82) (h101 : t 101 = .tb 3 5)
    (hk : rec k Q (putA ⟨46, upd t 101 (.tb 5 5), [(5, ⟨1, byC (T ++ [10])⟩), (4, ⟨1, [[U 10]]⟩), (1, ⟨2, [[.ptr 1 0 0, .sl 5 0 (T ++ [10]).length]]⟩), (2, X2), (0, X0)], 6, ⟨sv, some (.mp none)⟩⟩ o.dst nilI)) :
    AtFn Tryd.prog rec o 65 [.ptr 1 0 0, U 10] k Q ⟨46, t, [(1, ⟨2, [[.ptr 1 0 0, .sl 3 0 T.length]]⟩), (2, X2), (0, X0), (3, ⟨1, byC T⟩)], 4, ⟨sv, some (.mp none)⟩⟩ := by
  refine AtFn.inl 400 [4] mixed Tryd.func65 (by kernel_rfl) rfl (by rw [Tryd.results65]; rfl) (Nat.le_of_ble_eq_true rfl) ?_; rw [Tryd.ntmps65]
  simp -dsimp -implicitDefEqProofs (maxSteps := 1000000) only [go_sem, ↓reduceIte, Nat.reduceAdd, Nat.reduceSub, Nat.reduceMul, Nat.reduceLT, Nat.reduceLeDiff, Nat.reduceEqDiff, Nat.reduceBEq, Nat.reduceBNe, Int.reduceToNat, Int.reduceLT, Int.reduceLE, Int.reduceNeg, reduceCtorEq, Int.reduceEq, Int.reduceNe]
  refine AtFn.inl 400 [] mixed Tryd.func91 (by kernel_rfl) rfl (by rw [Tryd.results91]; rfl) (Nat.le_of_ble_eq_true rfl) ?_; rw [Tryd.ntmps91]
  simp -dsimp -implicitDefEqProofs (maxSteps := 1000000) only [go_sem, ↓reduceIte, Nat.reduceAdd, Nat.reduceSub, Nat.reduceMul, Nat.reduceLT, Nat.reduceLeDiff, Nat.reduceEqDiff, Nat.reduceBEq, Nat.reduceBNe, Int.reduceToNat, Int.reduceLT, Int.reduceLE, Int.reduceNeg, reduceCtorEq, Int.reduceEq, Int.reduceNe]
  refine ⟨hp80, hp80, ?_⟩
  refine AtOp.apTE (e := 5) 1 101 rfl (by kernel_rfl) (by kernel_rfl) (by simp -dsimp -implicitDefEqProofs (maxSteps := 1000000) only [go_sem, ↓reduceIte, Nat.reduceAdd, Nat.reduceSub, Nat.reduceMul, Nat.reduceLT, Nat.reduceLeDiff, Nat.reduceEqDiff, Nat.reduceBEq, Nat.reduceBNe, Int.reduceToNat, Int.reduceLT, Int.reduceLE, Int.reduceNeg, reduceCtorEq, Int.reduceEq, Int.reduceNe]; intro n i len h; cases h; rfl) ?_
  simp -dsimp -implicitDefEqProofs (maxSteps := 1000000) only [go_sem, ↓reduceIte, Nat.reduceAdd, Nat.reduceSub, Nat.reduceMul, Nat.reduceLT, Nat.reduceLeDiff, Nat.reduceEqDiff, Nat.reduceBEq, Nat.reduceBNe, Int.reduceToNat, Int.reduceLT, Int.reduceLE, Int.reduceNeg, reduceCtorEq, Int.reduceEq, Int.reduceNe, byC_len, takeBy, oneBy, Nat.zero_add, Nat.le_refl, byC_snoc]
  exact ⟨by omega, ⟨.inr ⟨0, t, 101, rfl, h101⟩, by simp⟩, hk⟩
theorem str66 {rec : List It → (AState → Prop) → AState → Prop} {o : Oper} {k : List It} {Q : AState → Prop} {t : Nat → AV} {sv : List (Nat → AV)} (X0 X2 : Blk) (T : List UInt8) (hT : T ≠ []) (hl : T.length ≤ 1073741824)
    (h100 : t 100 = .tb 1 82) (h101 : t 101 = .tb 3 5)
    (hk : rec k Q (putA ⟨46, t, [(1, ⟨2, [[.ptr 1 0 0, .sl 3 0 T.length]]⟩), (2, X2), (0, X0)], 14, ⟨sv, some (.mp none)⟩⟩ o.dst (.v (.string ⟨T.toArray⟩)))) :
    AtFn Tryd.prog rec o 66 [.ptr 1 0 0] k Q ⟨46, t, [(1, ⟨2, [[.ptr 1 0 0, .sl 3 0 T.length]]⟩), (2, X2), (0, X0), (3, ⟨1, byC T⟩)], 4, ⟨sv, some (.mp none)⟩⟩ := by
  have hpos : 0 < T.length := List.length_pos_iff.2 hT
  refine AtFn.inl 400 [2] mixed Tryd.func66 (by kernel_rfl) rfl (by rw [Tryd.results66]; rfl) (Nat.le_of_ble_eq_true rfl) ?_; rw [Tryd.ntmps66]
  simp -dsimp -implicitDefEqProofs (maxSteps := 1000000) only [go_sem, ↓reduceIte, Nat.reduceAdd, Nat.reduceSub, Nat.reduceMul, Nat.reduceLT, Nat.reduceLeDiff, Nat.reduceEqDiff, Nat.reduceBEq, Nat.reduceBNe, Int.reduceToNat, Int.reduceLT, Int.reduceLE, Int.reduceNeg, reduceCtorEq, Int.reduceEq, Int.reduceNe]
  refine AtCode.draw 10 [([], []), ([0], []), ([0, 1], []), ([0, 1, 2], []), ([0, 1, 2, 3], []), ([], []), ([5], []), ([5, 6], []), ([5, 6, 7], []), ([5, 6, 7, 8], []), ([0, 1, 2, 3, 4, 5, 6, 7, 8, 9], []), ([0, 1, 2, 3, 4, 5, 6, 7, 8, 9, 10], [])] (by kernel_rfl) ?_
  simp -dsimp -implicitDefEqProofs (maxSteps := 1000000) only [go_sem, ↓reduceIte, Nat.reduceAdd, Nat.reduceSub, Nat.reduceMul, Nat.reduceLT, Nat.reduceLeDiff, Nat.reduceEqDiff, Nat.reduceBEq, Nat.reduceBNe, Int.reduceToNat, Int.reduceLT, Int.reduceLE, Int.reduceNeg, reduceCtorEq, Int.reduceEq, Int.reduceNe, hpos]
  refine AtOp.ustr (m := 3) (e := 5) (l := T) rfl (by kernel_rfl) (by kernel_rfl) (by simp -dsimp -implicitDefEqProofs (maxSteps := 1000000) only [go_sem, ↓reduceIte, Nat.reduceAdd, Nat.reduceSub, Nat.reduceMul, Nat.reduceLT, Nat.reduceLeDiff, Nat.reduceEqDiff, Nat.reduceBEq, Nat.reduceBNe, Int.reduceToNat, Int.reduceLT, Int.reduceLE, Int.reduceNeg, reduceCtorEq, Int.reduceEq, Int.reduceNe]) (by simp -dsimp -implicitDefEqProofs (maxSteps := 1000000) only [go_sem, ↓reduceIte, Nat.reduceAdd, Nat.reduceSub, Nat.reduceMul, Nat.reduceLT, Nat.reduceLeDiff, Nat.reduceEqDiff, Nat.reduceBEq, Nat.reduceBNe, Int.reduceToNat, Int.reduceLT, Int.reduceLE, Int.reduceNeg, reduceCtorEq, Int.reduceEq, Int.reduceNe]) (.inr ⟨0, t, 101, rfl, h101⟩) (by simp -dsimp -implicitDefEqProofs (maxSteps := 1000000) only [go_sem, ↓reduceIte, Nat.reduceAdd, Nat.reduceSub, Nat.reduceMul, Nat.reduceLT, Nat.reduceLeDiff, Nat.reduceEqDiff, Nat.reduceBEq, Nat.reduceBNe, Int.reduceToNat, Int.reduceLT, Int.reduceLE, Int.reduceNeg, reduceCtorEq, Int.reduceEq, Int.reduceNe]) hT (by omega) ?_
  simp -dsimp -implicitDefEqProofs (maxSteps := 1000000) only [go_sem, ↓reduceIte, Nat.reduceAdd, Nat.reduceSub, Nat.reduceMul, Nat.reduceLT, Nat.reduceLeDiff, Nat.reduceEqDiff, Nat.reduceBEq, Nat.reduceBNe, Int.reduceToNat, Int.reduceLT, Int.reduceLE, Int.reduceNeg, reduceCtorEq, Int.reduceEq, Int.reduceNe]
  exact hk
end

end Go.Proofs.YtfmlhmfbhcfnpaaDoor
