/- What functions of the given program answer, part 2. Conditions: each theorem speaks for itself. -/
import Derived.Test.YtfmlhmfbhcfnpaaDoorBTy
import Derived.Test.YtfmlhmfbhcfnpaaDoorBF1
set_option linter.unusedSimpArgs false
set_option linter.unusedVariables false
namespace Go.Proofs.YtfmlhmfbhcfnpaaDoor
open Go Go.Eng Go.RowKit
attribute [local go_sem ↓] qE_move qE_assign qE_pick qE_load qE_fieldAddr qE_indexAddr qE_extract qE_binOp qE_not qE_convert qE_makeFunc qE_build qE_len qE_max2 qE_min2 qE_usd qE_nilCheck qE_slice vc_end vc_skip vc_scope vc_ret vc_seq vc_cond vc_block vc_exit vc_region vc_draw vc_rangeFunc vc_loop vc_blk vc_lp vc_o_nil vc_o vc_o_guard onK_eq oK_move oK_assign oK_pick oK_load oK_fieldAddr oK_indexAddr oK_index oK_extract oK_binOp oK_unOp oK_convert oK_makeFunc oK_nilCheck oK_slice oK_build oK_len oK_max oK_ustr oK_min onN_eq oK_box oK_alloc oK_buildSlice oK_makeSlice onH_eq oK_store onA_eq oK_append oK_call oK_range oK_next bV_add bV_sub bV_mul bV_quo bV_rem bV_and bV_or bV_shl bV_shr bV_eql bV_neq bV_lss bV_leq bV_gtr bV_geq bV_add_s bV_eql_s bV_neq_s vcQ_nil vcQ_cons Q_move Q_assign Q_load Q_fieldAddr Q_indexAddr Q_index Q_binOp Q_nilCheck Q_slice Q_build Q_len Q_usd Q_min Q_call qE_index tailB_nil tailB_true onS_eq tailB_store onQ_eq loadE indexE
attribute [local go_sem] force_eq optK_some optE_some optE_none vK_v bK_v tK_t fnK_fn fyK_fn fyK_y nK_ptr pK_ptr pK_rp brK_true brK_false brK_not evA_tmp evA_const evA_func putA_some putA_none pushA_eq slots_zero tl_nil tl_cons find_cons find_nil setN_cons setN_nil dropN_nil dropN_cons loE_none loE_some hiE_none hiE_some slE_sl slE_ro slE_str bE_pp bE_p0 bE_00 bE_i bE_s bE_eql bE_neq intsA_nil intsA_cons slK_sl ptrV_eql ptrV_neq gdK_b popTo_blk popTo_c popTo_lp nilE_tmp nilE_int nilE_str nilE_ptr nilE_nil srcE_ro srcE_sl srcE_str dstE_sl dstE_nil apK_E fin_eq res_nil res_tmp res_cell tup1 tup0 optA_some frz_v frz_ro frz_rp frz_g frz_fn frz_ptr frz_sl optL_some nm_v nm_ro nm_rp nm_g nm_fn nm_ptr nm_sl cells_v cells_g cells_ro cells_ptr cells_sl one_int one_string one_slice oneA_v oneA_ro oneA_ptr oneA_sl ofV_int ofV_bool ofV_string ofV_slice ofV_nilFunc ofV_pointer len_ro len_sl asI_int fill_nil fill_cons chunks_nil chunks_cons DrawK_eq idR_eq sg_nil sg_cons ren_v ren_nil ren_ptr ren_sl ren_ro ren_rp iK_ro iK_sl ixE_s RfEnd_eq RfQ_eq RfBody_eq takeA_00 takeA_s updL_cons updL_nil nil_eq maskE_eq i_InlQ i_tup2 i_RenF_nil i_RenF_cons i_cut_nil i_cut_cons wrap_wr brK_dec maskH_eq upd_get slots_succ Cl_v Cl_ro Cl_rp Cl_fn Cl_g Cl_t g_put0 g_put1 u_nil u_tmp u_cell u_fin Bool.false_eq_true decide_true decide_false beq_self_eq_true true_and and_true ne_eq not_true not_false_eq_true List.elem_cons List.elem_nil List.contains_cons List.contains_nil List.getD_cons_zero List.getD_cons_succ Int.cast_ofNat_Int Bool.or_true Bool.true_or Bool.or_false Bool.false_or if_true if_false List.toList_toArray List.map_cons List.map_nil List.cons_append List.nil_append List.append_nil List.flatMap_cons List.flatMap_nil List.getElem?_cons_zero List.getElem?_cons_succ List.length_cons List.length_nil List.drop_succ_cons List.drop_zero List.take_succ_cons List.take_zero List.all_cons List.all_nil List.set_cons_zero List.set_cons_succ Option.bind_some Option.bind_none Option.map_some Option.map_none List.headD_cons List.tail_cons List.getElem?_toArray beq_true beq_false Bool.not_true Bool.not_false Bool.true_and Bool.and_true Bool.false_and Bool.and_false newCh Option.some.injEq exists_eq_left' sg_nil sg_cons List.mem_cons List.not_mem_nil forall_eq_or_imp forall_eq false_implies implies_true or_false false_or false_and and_false or_true true_or exists_false Option.isSome_some Option.isSome_none List.range_zero
attribute [local go_sem] T.sz3 T.ag3 T.ik3 T.us3 T.sz5 T.by5 T.ag5 T.ik5 T.us5 T.ze5 T.sz9 T.by9 T.ag9 T.sl9 T.ar9 T.pt9 T.ik9 T.st9 T.ze9 T.us21 T.sz23 T.by23 T.ag23 T.sl23 T.ar23 T.pt23 T.ik23 T.us23 T.ux23 T.ze23 T.sz25 T.ag25 T.sf25 T.ze25 T.fl25_0 T.fl25_1 T.fl25_2 T.bu25 T.sz26 T.ag26 T.sf26 T.ze26 T.sz34 T.ag34 T.sl34 T.ar34 T.sf34 T.ze34 T.bu34 T.sz37 T.ag37 T.sl37 T.ar37 T.sf37 T.sl40 T.ik40 T.us40 T.ux40 T.sz50 T.by50 T.ag50 T.sl50 T.ar50 T.sf50 T.ze50 T.bu50 T.sl68 T.ar68 T.pt68 T.sz80 T.ag80 T.ik80 T.sf82 T.ze82 T.fl82_0 T.fl82_1 T.sz83 T.ag83 T.sl83 T.ik83 T.us83 T.ux83 T.sl91 T.ik117 -- NOREP
section
def mkR (w h : Nat) (f : Nat → Nat → Int) : Ra := ⟨w, h, (List.range (w * h)).map fun k => f (k % w) (k / w)⟩
def fillP (N : Nat) (f : Nat → Int) (i : Nat) : List Int := (List.range N).map fun k => if k < i then f k else 0
theorem fillP_0 (N : Nat) (f : Nat → Int) : fillP N f 0 = List.replicate N 0 := by
  unfold fillP
  refine List.ext_getElem? fun j => ?_
  rw [List.getElem?_map, List.getElem?_replicate]
  split
  · rename_i h; rw [List.getElem?_range h]; rfl
  · rename_i h; rw [List.getElem?_eq_none (by simp; omega)]; rfl
theorem fillP_n (N : Nat) (f : Nat → Int) : fillP N f N = (List.range N).map f := by
  unfold fillP
  refine List.map_congr_left fun j hj => ?_
  rw [if_pos (List.mem_range.1 hj)]
theorem fillP_len (N : Nat) (f : Nat → Int) (i : Nat) : (fillP N f i).length = N := by simp [fillP]
theorem pxC_len (l : List Int) : (pxC l).length = l.length := by simp [pxC]
theorem pxC_get (l : List Int) (i : Nat) : (pxC l)[i]? = (l[i]?).map fun x => [U x] := by simp [pxC]
theorem clPx (l : List Int) : ∀ c ∈ pxC l, ∀ s ∈ c, Cl s := fun c hc s hs => by
  obtain ⟨x, _, rfl⟩ := List.mem_map.1 hc
  rw [List.mem_singleton.1 hs]; exact .v _
theorem clPxT (l : List Int) : (∀ c ∈ pxC l, ∀ s ∈ c, Cl s) ↔ True := iff_true_intro (clPx l)
theorem clRa (r : Ra) : Cl (RaA r) := by simp [Cl_g, Cl_v, Cl_ro, clPxT]
theorem fillP_set (N : Nat) (f : Nat → Int) (i : Nat) (x : Int) (hx : x = f i) : (pxC (fillP N f i)).set i [U x] = pxC (fillP N f (i + 1)) := by
  subst hx
  unfold pxC
  rw [← List.map_set]
  congr 1
  unfold fillP
  refine List.ext_getElem? fun j => ?_
  rw [List.getElem?_set]
  by_cases hj : j < N
  · simp only [List.length_map, List.length_range, List.getElem?_map, List.getElem?_range hj, Option.map_some]
    by_cases hij : i = j
    · subst hij
      rw [if_pos rfl, if_pos hj, if_pos (by omega)]
    · rw [if_neg hij]
      by_cases h2 : j < i
      · rw [if_pos h2, if_pos (by omega)]
      · rw [if_neg h2, if_neg (by omega)]
  · simp only [List.length_map, List.length_range]
    rw [List.getElem?_eq_none (by simp; omega), List.getElem?_eq_none (by simp; omega)]
    split
    · rw [if_neg (by omega)]
    · rfl
theorem renL_cl2 {σ : Nat → Nat} {ns : List Nat} {l l' : List (List AV)} (h : l = l') (hc : ∀ c ∈ l', ∀ s ∈ c, Cl s) : RenL σ ns l l' := renL_cl h (h ▸ hc)
theorem prodN {w h : Nat} (hw : w ≤ 256) (hh : h ≤ 256) : w * h ≤ 65536 := Nat.mul_le_mul hw hh
theorem tmodN (a b : Nat) : ((a : Int)).tmod (b : Int) = ((a % b : Nat) : Int) := by rw [Int.tmod_eq_emod_of_nonneg (by omega)]; rfl
theorem tdivN (a b : Nat) : ((a : Int)).tdiv (b : Int) = ((a / b : Nat) : Int) := by rw [Int.tdiv_eq_ediv_of_nonneg (by omega)]; rfl
theorem takePx (l : List Int) (n : Nat) (h : l.length = n) : takeA 0 n (pxC l) = pxC l := by rw [takeA_eq, List.drop_zero, List.take_of_length_le (by rw [pxC_len]; omega)]
theorem mod_lt2 {i w h : Nat} (hi : i < w * h) : i % w < w ∧ i / w < h := by
  have hw : 0 < w := by rcases Nat.eq_zero_or_pos w with h0 | h0; (· subst h0; simp at hi); exact h0
  exact ⟨Nat.mod_lt _ hw, Nat.div_lt_of_lt_mul hi⟩
theorem wrN {n : Nat} (h : n ≤ 4611686018427387904) : wr (n : Int) = n := wr_in (by omega) (by omega)
theorem fillP_get {N : Nat} (f : Nat → Int) {i : Nat} (h : i < N) : (fillP N f i)[i]? = some 0 := by
  unfold fillP
  rw [List.getElem?_map, List.getElem?_range h, Option.map_some, if_neg (Nat.lt_irrefl i)]
set_option maxRecDepth 20000
theorem made69 (w h : Nat) (hw1 : 1 ≤ w) (hw : w ≤ 256) (hh1 : 1 ≤ h) (hh : h ≤ 256) (g : Nat) (caps : List AV) (hcl : ∀ a ∈ caps, Cl a) (f : Nat → Nat → Int)
    (hf : ∀ i j, i < w → j < h → PFun Tryd.prog g ([I (i : Int), I (j : Int)] ++ caps) (U (f i j))) : PFun Tryd.prog 69 [I w, I h, .fn g caps] (RaA (mkR w h f)) := by
  obtain ⟨N, hN⟩ : ∃ N, N = w * h := ⟨_, rfl⟩
  have hN2 : N ≤ 65536 := hN ▸ prodN hw hh
  have eN : wr ((w : Int) * (h : Int)) = (N : Int) := by rw [← Int.natCast_mul, ← hN, wr_in] <;> omega
  have hN3 : ((N : Nat) : Int) ≤ 274877906944 := by omega
  have hclF : Cl (.fn g caps) := Cl_fn.2 hcl
  have hfin : mkR w h f = ⟨w, h, fillP N (fun k => f (k % w) (k / w)) N⟩ := by unfold mkR; rw [fillP_n, hN]
  rw [hfin]
  refine PFun.intro 400 mixed Tryd.func69 (by kernel_rfl) rfl (clRa _) (Nat.le_of_ble_eq_true rfl) ?_; rw [Tryd.ntmps69, Tryd.results69]
  simp -dsimp -implicitDefEqProofs (maxSteps := 1000000) only [go_sem, ↓reduceIte, Nat.reduceAdd, Nat.reduceSub, Nat.reduceMul, Nat.reduceLT, Nat.reduceLeDiff, Nat.reduceEqDiff, Nat.reduceBEq, Nat.reduceBNe, Int.reduceToNat, Int.reduceLT, Int.reduceLE, Int.reduceNeg, reduceCtorEq, Int.reduceEq, Int.reduceNe, eN, Int.natCast_nonneg, Int.le_refl, hN3, Int.toNat_natCast, List.length_replicate]
  refine ⟨{i : Nat // i ≤ N}, fun i => ⟨36, tl [(0, I w), (1, I h), (2, .fn g caps), (6, .ptr 0 0 0), (7, .ptr 2 0 0), (18, I (N : Nat)), (19, I i.1)], [(2, ⟨3, [[I w, I h, .sl 1 0 N]]⟩), (1, ⟨1, pxC (fillP N (fun k => f (k % w) (k / w)) i.1)⟩), (0, ⟨3, [[I 0, I 0, .v (.slice none 0 0)]]⟩)], 3, .nil⟩, fun i => N - i.1,
    ⟨⟨0, by omega⟩, Le.tl (Ls := []) (y := none) [] ?_ ?_ (by simp) (by simp [sg]) trivial⟩, fun i => ?_⟩
  · simp -dsimp -implicitDefEqProofs (maxSteps := 1000000) only [go_sem, ↓reduceIte, Nat.reduceAdd, Nat.reduceSub, Nat.reduceMul, Nat.reduceLT, Nat.reduceLeDiff, Nat.reduceEqDiff, Nat.reduceBEq, Nat.reduceBNe, Int.reduceToNat, Int.reduceLT, Int.reduceLE, Int.reduceNeg, reduceCtorEq, Int.reduceEq, Int.reduceNe]
    exact .cl hclF
  · simp -dsimp -implicitDefEqProofs (maxSteps := 1000000) only [go_sem, ↓reduceIte, Nat.reduceAdd, Nat.reduceSub, Nat.reduceMul, Nat.reduceLT, Nat.reduceLeDiff, Nat.reduceEqDiff, Nat.reduceBEq, Nat.reduceBNe, Int.reduceToNat, Int.reduceLT, Int.reduceLE, Int.reduceNeg, reduceCtorEq, Int.reduceEq, Int.reduceNe]
    refine ⟨renL_F (by simp -dsimp -implicitDefEqProofs (maxSteps := 1000000) only [go_sem, ↓reduceIte, Nat.reduceAdd, Nat.reduceSub, Nat.reduceMul, Nat.reduceLT, Nat.reduceLeDiff, Nat.reduceEqDiff, Nat.reduceBEq, Nat.reduceBNe, Int.reduceToNat, Int.reduceLT, Int.reduceLE, Int.reduceNeg, reduceCtorEq, Int.reduceEq, Int.reduceNe]), renL_cl2 (by rw [fillP_0, pxC, List.map_replicate]) (clPx _), renL_F (by simp -dsimp -implicitDefEqProofs (maxSteps := 1000000) only [go_sem, ↓reduceIte, Nat.reduceAdd, Nat.reduceSub, Nat.reduceMul, Nat.reduceLT, Nat.reduceLeDiff, Nat.reduceEqDiff, Nat.reduceBEq, Nat.reduceBNe, Int.reduceToNat, Int.reduceLT, Int.reduceLE, Int.reduceNeg, reduceCtorEq, Int.reduceEq, Int.reduceNe])⟩
  obtain ⟨i, hi⟩ := i
  simp -dsimp -implicitDefEqProofs (maxSteps := 1000000) only [go_sem, ↓reduceIte, Nat.reduceAdd, Nat.reduceSub, Nat.reduceMul, Nat.reduceLT, Nat.reduceLeDiff, Nat.reduceEqDiff, Nat.reduceBEq, Nat.reduceBNe, Int.reduceToNat, Int.reduceLT, Int.reduceLE, Int.reduceNeg, reduceCtorEq, Int.reduceEq, Int.reduceNe, Int.natCast_nonneg]
  refine ⟨fun h' => ?_, fun hout => ?_⟩
  · have hlt : i < N := by omega
    have e3 : wr ((i : Int) + 1) = ((i + 1 : Nat) : Int) := by rw [wr_in] <;> omega
    have ew : ¬ (w : Int) = 0 := by omega
    obtain ⟨m1, m2⟩ := mod_lt2 (show i < w * h by omega)
    have e4 : wr ((i / w : Nat) : Int) = ((i / w : Nat) : Int) := wrN (by omega)
    refine AtCode.draw 12 [([], []), ([0], []), ([], []), ([], []), ([], []), ([], []), ([4, 5], []), ([], []), ([], []), ([7, 8], []), ([3, 4, 5, 6, 7, 8, 9], []), ([0, 1, 2, 3, 4, 5, 6, 7, 8, 9, 10], []), ([0, 1, 2, 3, 4, 5, 6, 7, 8, 9, 10, 11], [])] (by kernel_rfl) ?_
    simp -dsimp -implicitDefEqProofs (maxSteps := 1000000) only [go_sem, ↓reduceIte, Nat.reduceAdd, Nat.reduceSub, Nat.reduceMul, Nat.reduceLT, Nat.reduceLeDiff, Nat.reduceEqDiff, Nat.reduceBEq, Nat.reduceBNe, Int.reduceToNat, Int.reduceLT, Int.reduceLE, Int.reduceNeg, reduceCtorEq, Int.reduceEq, Int.reduceNe, tmodN, tdivN, ew, e4]
    refine QFn.use _ (hf (i % w) (i / w) m1 m2) ?_ ?_
    · intro a ha
      simp only [List.mem_cons] at ha
      rcases ha with rfl | rfl | ha
      · exact .v _
      · exact .v _
      · exact hcl a ha
    simp -dsimp -implicitDefEqProofs (maxSteps := 1000000) only [go_sem, ↓reduceIte, Nat.reduceAdd, Nat.reduceSub, Nat.reduceMul, Nat.reduceLT, Nat.reduceLeDiff, Nat.reduceEqDiff, Nat.reduceBEq, Nat.reduceBNe, Int.reduceToNat, Int.reduceLT, Int.reduceLE, Int.reduceNeg, reduceCtorEq, Int.reduceEq, Int.reduceNe, Int.natCast_nonneg, Int.toNat_natCast, pxC_len, fillP_len, pxC_get, Nat.zero_add, fillP_get _ hlt, e3]
    refine ⟨h', ⟨i + 1, by omega⟩, by show N - (i + 1) < N - i; omega, Le.tl (Ls := []) (y := none) [] ?_ ?_ (by simp) (by simp [sg]) trivial⟩
    · simp -dsimp -implicitDefEqProofs (maxSteps := 1000000) only [go_sem, ↓reduceIte, Nat.reduceAdd, Nat.reduceSub, Nat.reduceMul, Nat.reduceLT, Nat.reduceLeDiff, Nat.reduceEqDiff, Nat.reduceBEq, Nat.reduceBNe, Int.reduceToNat, Int.reduceLT, Int.reduceLE, Int.reduceNeg, reduceCtorEq, Int.reduceEq, Int.reduceNe]
      exact .cl hclF
    · simp -dsimp -implicitDefEqProofs (maxSteps := 1000000) only [go_sem, ↓reduceIte, Nat.reduceAdd, Nat.reduceSub, Nat.reduceMul, Nat.reduceLT, Nat.reduceLeDiff, Nat.reduceEqDiff, Nat.reduceBEq, Nat.reduceBNe, Int.reduceToNat, Int.reduceLT, Int.reduceLE, Int.reduceNeg, reduceCtorEq, Int.reduceEq, Int.reduceNe]
      refine ⟨renL_F (by simp -dsimp -implicitDefEqProofs (maxSteps := 1000000) only [go_sem, ↓reduceIte, Nat.reduceAdd, Nat.reduceSub, Nat.reduceMul, Nat.reduceLT, Nat.reduceLeDiff, Nat.reduceEqDiff, Nat.reduceBEq, Nat.reduceBNe, Int.reduceToNat, Int.reduceLT, Int.reduceLE, Int.reduceNeg, reduceCtorEq, Int.reduceEq, Int.reduceNe]), renL_cl2 (fillP_set _ _ _ _ rfl) (clPx _), renL_F (by simp -dsimp -implicitDefEqProofs (maxSteps := 1000000) only [go_sem, ↓reduceIte, Nat.reduceAdd, Nat.reduceSub, Nat.reduceMul, Nat.reduceLT, Nat.reduceLeDiff, Nat.reduceEqDiff, Nat.reduceBEq, Nat.reduceBNe, Int.reduceToNat, Int.reduceLT, Int.reduceLE, Int.reduceNeg, reduceCtorEq, Int.reduceEq, Int.reduceNe])⟩
  · obtain rfl : i = N := by omega
    rw [if_pos (by rw [pxC_len, fillP_len]; omega), takePx _ _ (fillP_len _ _ _)]
end

section
set_option maxRecDepth 20000
attribute [local go_sem] clPxT
def px (p : List Int) (w i j : Nat) : Int := p.getD (j * w + i) 0
theorem vaR_of {r : Ra} (h : vaB r = true) : ∃ (w h : Nat) (p : List Int), r = ⟨w, h, p⟩ ∧ 1 ≤ w ∧ w ≤ 256 ∧ 1 ≤ h ∧ h ≤ 256 ∧ p.length = w * h := by
  obtain ⟨w, h', p⟩ := r
  simp only [vaB, sideB, Bool.and_eq_true, decide_eq_true_eq] at h
  obtain ⟨⟨⟨h1, h2⟩, h3, h4⟩, h5⟩ := h
  obtain ⟨w, rfl⟩ := Int.eq_ofNat_of_zero_le (show 0 ≤ w by omega)
  obtain ⟨h', rfl⟩ := Int.eq_ofNat_of_zero_le (show 0 ≤ h' by omega)
  have := prodN (w := w) (h := h') (by omega) (by omega)
  refine ⟨w, h', p, rfl, by omega, by omega, by omega, by omega, ?_⟩
  rw [← Int.natCast_mul, wrN (by omega)] at h5
  omega
theorem vaB_mk {w h : Nat} {p : List Int} (w1 : 1 ≤ w) (w2 : w ≤ 256) (h1 : 1 ≤ h) (h2 : h ≤ 256) (hp : p.length = w * h) : vaB ⟨w, h, p⟩ = true := by
  have := prodN w2 h2
  simp only [vaB, sideB, Bool.and_eq_true, decide_eq_true_eq]
  rw [← Int.natCast_mul, wrN (by omega)]
  omega
theorem wrS {a b : Nat} (h : b ≤ a) (ha : a ≤ 4611686018427387904) : wr ((a : Int) - (b : Int)) = ((a - b : Nat) : Int) := by rw [wr_in] <;> omega
theorem wrS1 {a : Nat} (h : 1 ≤ a) (ha : a ≤ 4611686018427387904) : wr ((a : Int) - 1) = ((a - 1 : Nat) : Int) := by rw [wr_in] <;> omega
theorem wrA {a b : Nat} (h : a + b ≤ 4611686018427387904) : wr ((a : Int) + (b : Int)) = ((a + b : Nat) : Int) := by rw [wr_in] <;> omega
theorem wrA1 {a : Nat} (h : a ≤ 4611686018427387904) : wr ((a : Int) + 1) = ((a + 1 : Nat) : Int) := by rw [wr_in] <;> omega
theorem wrM {a b : Nat} (h : a * b ≤ 4611686018427387904) : wr ((a : Int) * (b : Int)) = ((a * b : Nat) : Int) := by rw [← Int.natCast_mul, wrN h]
theorem idx_lt {i j w h : Nat} (hi : i < w) (hj : j < h) : j * w + i < w * h := by
  have : (j + 1) * w ≤ h * w := Nat.mul_le_mul_right _ hj
  rw [Nat.succ_mul, Nat.mul_comm h w] at this
  omega
theorem getD_some {p : List Int} {k : Nat} (h : k < p.length) : p[k]? = some (p.getD k 0) := by
  rw [List.getD, List.getElem?_eq_getElem h]; rfl
theorem new75 (i j n : Int) : PFun Tryd.prog 75 [I i, I j, .rp [I n] 0] (U (IntKind.u8.wrap n)) := by
  refine PFun.intro 400 mixed Tryd.func75 (by kernel_rfl) rfl (by first | exact .v _ | (simp [Cl_v, Cl_t, Cl_g, Cl_fn, Cl_rp, Cl_ro]; done) | (simp [Cl_v, Cl_t, Cl_g, Cl_fn, Cl_rp, Cl_ro, or_imp, forall_and]; done) | (split <;> simp [Cl_v, Cl_t, Cl_g, Cl_fn, Cl_rp, Cl_ro])) (Nat.le_of_ble_eq_true rfl) ?_; rw [Tryd.ntmps75, Tryd.results75]
  simp -dsimp -implicitDefEqProofs (maxSteps := 1000000) only [go_sem, ↓reduceIte, Nat.reduceAdd, Nat.reduceSub, Nat.reduceMul, Nat.reduceLT, Nat.reduceLeDiff, Nat.reduceEqDiff, Nat.reduceBEq, Nat.reduceBNe, Int.reduceToNat, Int.reduceLT, Int.reduceLE, Int.reduceNeg, reduceCtorEq, Int.reduceEq, Int.reduceNe]
theorem turn80 (w h : Nat) (p : List Int) (hw2 : w ≤ 256) (hh2 : h ≤ 256) (hlen : p.length = w * h) (i j : Nat) (hi : i < h) (hj : j < w) :
    PFun Tryd.prog 80 [I i, I j, .rp [I w, I h, .ro 1 (pxC p)] 0] (U (px p w j (h - 1 - i))) := by
  have hw0 := prodN hw2 hh2
  have hil := idx_lt (i := j) (j := h - 1 - i) (w := w) (h := h) hj (by omega)
  have hget := getD_some (p := p) (hlen ▸ hil)
  have hli : (((h - 1 - i) * w + j : Nat) : Int) < (p.length : Int) := by omega
  have e1 := wrS1 (a := h) (by omega) (by omega)
  have e2 := wrS (a := h - 1) (b := i) (by omega) (by omega)
  have e3 := wrM (a := h - 1 - i) (b := w) (by omega)
  have e4 := wrA (a := (h - 1 - i) * w) (b := j) (by omega)
  refine PFun.intro 400 mixed Tryd.func80 (by kernel_rfl) rfl (by first | exact .v _ | (simp [Cl_v, Cl_t, Cl_g, Cl_fn, Cl_rp, Cl_ro]; done) | (simp [Cl_v, Cl_t, Cl_g, Cl_fn, Cl_rp, Cl_ro, or_imp, forall_and]; done) | (split <;> simp [Cl_v, Cl_t, Cl_g, Cl_fn, Cl_rp, Cl_ro])) (Nat.le_of_ble_eq_true rfl) ?_; rw [Tryd.ntmps80, Tryd.results80]
  simp -dsimp -implicitDefEqProofs (maxSteps := 1000000) only [go_sem, ↓reduceIte, Nat.reduceAdd, Nat.reduceSub, Nat.reduceMul, Nat.reduceLT, Nat.reduceLeDiff, Nat.reduceEqDiff, Nat.reduceBEq, Nat.reduceBNe, Int.reduceToNat, Int.reduceLT, Int.reduceLE, Int.reduceNeg, reduceCtorEq, Int.reduceEq, Int.reduceNe, e1, e2, e3, e4, pxC_len, pxC_get, Int.natCast_nonneg, Int.toNat_natCast, Nat.zero_add, hget]
  rfl
theorem mirror81 (w h : Nat) (p : List Int) (hw2 : w ≤ 256) (hh2 : h ≤ 256) (hlen : p.length = w * h) (i j : Nat) (hi : i < w) (hj : j < h) :
    PFun Tryd.prog 81 [I i, I j, .rp [I w, I h, .ro 1 (pxC p)] 0] (U (px p w (w - 1 - i) j)) := by
  have hw0 := prodN hw2 hh2
  have hil := idx_lt (i := w - 1 - i) (j := j) (w := w) (h := h) (by omega) hj
  have hget := getD_some (p := p) (hlen ▸ hil)
  have hli : ((j * w + (w - 1 - i) : Nat) : Int) < (p.length : Int) := by omega
  have e1 := wrM (a := j) (b := w) (by omega)
  have e2 := wrA (a := j * w) (b := w) (by omega)
  have e3 := wrS1 (a := j * w + w) (by omega) (by omega)
  have e4 := wrS (a := j * w + w - 1) (b := i) (by omega) (by omega)
  have e5 : j * w + w - 1 - i = j * w + (w - 1 - i) := by omega
  refine PFun.intro 400 mixed Tryd.func81 (by kernel_rfl) rfl (by first | exact .v _ | (simp [Cl_v, Cl_t, Cl_g, Cl_fn, Cl_rp, Cl_ro]; done) | (simp [Cl_v, Cl_t, Cl_g, Cl_fn, Cl_rp, Cl_ro, or_imp, forall_and]; done) | (split <;> simp [Cl_v, Cl_t, Cl_g, Cl_fn, Cl_rp, Cl_ro])) (Nat.le_of_ble_eq_true rfl) ?_; rw [Tryd.ntmps81, Tryd.results81]
  simp -dsimp -implicitDefEqProofs (maxSteps := 1000000) only [go_sem, ↓reduceIte, Nat.reduceAdd, Nat.reduceSub, Nat.reduceMul, Nat.reduceLT, Nat.reduceLeDiff, Nat.reduceEqDiff, Nat.reduceBEq, Nat.reduceBNe, Int.reduceToNat, Int.reduceLT, Int.reduceLE, Int.reduceNeg, reduceCtorEq, Int.reduceEq, Int.reduceNe, e1, e2, e3, e4, e5, pxC_len, pxC_get, Int.natCast_nonneg, Int.toNat_natCast, Nat.zero_add, hget]
  rfl
theorem invert82 (w h : Nat) (p : List Int) (hw2 : w ≤ 256) (hh2 : h ≤ 256) (hlen : p.length = w * h) (i j : Nat) (hi : i < w) (hj : j < h) :
    PFun Tryd.prog 82 [I i, I j, .rp [I w, I h, .ro 1 (pxC p)] 0] (U (IntKind.u8.wrap (255 - px p w i j))) := by
  have hw0 := prodN hw2 hh2
  have hil := idx_lt (i := i) (j := j) (w := w) (h := h) hi hj
  have hget := getD_some (p := p) (hlen ▸ hil)
  have hli : ((j * w + i : Nat) : Int) < (p.length : Int) := by omega
  have e1 := wrM (a := j) (b := w) (by omega)
  have e2 := wrA (a := j * w) (b := i) (by omega)
  refine PFun.intro 400 mixed Tryd.func82 (by kernel_rfl) rfl (by first | exact .v _ | (simp [Cl_v, Cl_t, Cl_g, Cl_fn, Cl_rp, Cl_ro]; done) | (simp [Cl_v, Cl_t, Cl_g, Cl_fn, Cl_rp, Cl_ro, or_imp, forall_and]; done) | (split <;> simp [Cl_v, Cl_t, Cl_g, Cl_fn, Cl_rp, Cl_ro])) (Nat.le_of_ble_eq_true rfl) ?_; rw [Tryd.ntmps82, Tryd.results82]
  simp -dsimp -implicitDefEqProofs (maxSteps := 1000000) only [go_sem, ↓reduceIte, Nat.reduceAdd, Nat.reduceSub, Nat.reduceMul, Nat.reduceLT, Nat.reduceLeDiff, Nat.reduceEqDiff, Nat.reduceBEq, Nat.reduceBNe, Int.reduceToNat, Int.reduceLT, Int.reduceLE, Int.reduceNeg, reduceCtorEq, Int.reduceEq, Int.reduceNe, e1, e2, pxC_len, pxC_get, Int.natCast_nonneg, Int.toNat_natCast, Nat.zero_add, hget]
  rfl
theorem crop83 (w h : Nat) (p : List Int) (hw2 : w ≤ 256) (hh2 : h ≤ 256) (hlen : p.length = w * h) (x y i j : Nat) (hi : x + i < w) (hj : y + j < h) :
    PFun Tryd.prog 83 [I i, I j, .rp [I w, I h, .ro 1 (pxC p)] 0, .rp [I y] 0, .rp [I x] 0] (U (px p w (x + i) (y + j))) := by
  have hw0 := prodN hw2 hh2
  have hil := idx_lt (i := x + i) (j := y + j) (w := w) (h := h) hi hj
  have hget := getD_some (p := p) (hlen ▸ hil)
  have hli : (((y + j) * w + (x + i) : Nat) : Int) < (p.length : Int) := by omega
  have e0 := wrA (a := y) (b := j) (by omega)
  have e1 := wrM (a := y + j) (b := w) (by omega)
  have e2 := wrA (a := (y + j) * w) (b := x) (by omega)
  have e3 := wrA (a := (y + j) * w + x) (b := i) (by omega)
  have e4 := Nat.add_assoc ((y + j) * w) x i
  refine PFun.intro 400 mixed Tryd.func83 (by kernel_rfl) rfl (by first | exact .v _ | (simp [Cl_v, Cl_t, Cl_g, Cl_fn, Cl_rp, Cl_ro]; done) | (simp [Cl_v, Cl_t, Cl_g, Cl_fn, Cl_rp, Cl_ro, or_imp, forall_and]; done) | (split <;> simp [Cl_v, Cl_t, Cl_g, Cl_fn, Cl_rp, Cl_ro])) (Nat.le_of_ble_eq_true rfl) ?_; rw [Tryd.ntmps83, Tryd.results83]
  simp -dsimp -implicitDefEqProofs (maxSteps := 1000000) only [go_sem, ↓reduceIte, Nat.reduceAdd, Nat.reduceSub, Nat.reduceMul, Nat.reduceLT, Nat.reduceLeDiff, Nat.reduceEqDiff, Nat.reduceBEq, Nat.reduceBNe, Int.reduceToNat, Int.reduceLT, Int.reduceLE, Int.reduceNeg, reduceCtorEq, Int.reduceEq, Int.reduceNe, e0, e1, e2, e3, e4, pxC_len, pxC_get, Int.natCast_nonneg, Int.toNat_natCast, Nat.zero_add, hget]
  rfl
abbrev RE (x : Ra × Int) : AV := .t [RaA x.1, I x.2]
abbrev raZ : Ra := ⟨0, 0, []⟩
theorem clRE (x : Ra × Int) : Cl (RE x) := by simp [Cl_t, Cl_g, Cl_v, Cl_ro, clPxT]
theorem subO (e : Int) : Sub (.t [raO, I e]) (RE (raZ, e)) := Sub.t2 (Sub.g (.cons (.refl _) (.cons (.refl _) (.cons (Sub.nil 1) .nil)))) _
theorem pT {P : Program} {f : FuncId} {al : List AV} {c : Bool} {x y : Ra × Int} (hc : c = true) (h : PFun P f al (RE x)) : PFun P f al (RE (if c then x else y)) := by rw [if_pos hc]; exact h
theorem pE {P : Program} {f : FuncId} {al : List AV} {c : Bool} {x : Ra × Int} {e : Int} (hc : c = false) (h : PFun P f al (.t [raO, I e])) : PFun P f al (RE (if c then x else (raZ, e))) := by
  rw [if_neg (by rw [hc]; exact Bool.false_ne_true)]; exact h.res (subO e)
def newP (w h n : Int) : Ra × Int := if sideB w && sideB h && inkB n then (mkR w.toNat h.toNat fun _ _ => n, 0) else (raZ, 2)
theorem u8_ink {n : Int} (h : inkB n = true) : IntKind.u8.wrap n = n := by
  simp only [inkB, Bool.and_eq_true, decide_eq_true_eq] at h
  have e1 : (2 : Int) ^ IntKind.u8.bits = 256 := by decide
  simp only [IntKind.wrap, e1, IntKind.signed, Bool.false_and]
  simp
  omega
theorem side_of {n : Int} (h : sideB n = true) : ∃ k : Nat, n = k ∧ 1 ≤ k ∧ k ≤ 256 := by
  simp only [sideB, Bool.and_eq_true, decide_eq_true_eq] at h
  obtain ⟨k, rfl⟩ := Int.eq_ofNat_of_zero_le (show 0 ≤ n by omega)
  exact ⟨k, rfl, by omega, by omega⟩
theorem new33 (w h n : Int) : PFun Tryd.prog 33 [I w, I h, I n] (RE (newP w h n)) := by
  unfold newP
  by_cases hc : (sideB w && sideB h && inkB n) = true
  · refine pT hc ?_
    simp only [Bool.and_eq_true] at hc
    obtain ⟨⟨hw, hh⟩, hn⟩ := hc
    obtain ⟨W, rfl, w1, w2⟩ := side_of hw
    obtain ⟨H, rfl, h1, h2⟩ := side_of hh
    have hm := made69 W H w1 w2 h1 h2 75 [.rp [I n] 0] (by simp [Cl_rp, Cl_v]) (fun _ _ => n) (fun i j _ _ => by have := new75 i j n; rw [u8_ink hn] at this; exact this)
    refine PFun.intro 400 mixed Tryd.func33 (by kernel_rfl) rfl (clRE _) (Nat.le_of_ble_eq_true rfl) ?_; rw [Tryd.ntmps33, Tryd.results33]
    simp -dsimp -implicitDefEqProofs (maxSteps := 1000000) only [go_sem, ↓reduceIte, Nat.reduceAdd, Nat.reduceSub, Nat.reduceMul, Nat.reduceLT, Nat.reduceLeDiff, Nat.reduceEqDiff, Nat.reduceBEq, Nat.reduceBNe, Int.reduceToNat, Int.reduceLT, Int.reduceLE, Int.reduceNeg, reduceCtorEq, Int.reduceEq, Int.reduceNe]
    refine AtFn.pure0 (side74 _) ?_
    simp -dsimp -implicitDefEqProofs (maxSteps := 1000000) only [go_sem, ↓reduceIte, Nat.reduceAdd, Nat.reduceSub, Nat.reduceMul, Nat.reduceLT, Nat.reduceLeDiff, Nat.reduceEqDiff, Nat.reduceBEq, Nat.reduceBNe, Int.reduceToNat, Int.reduceLT, Int.reduceLE, Int.reduceNeg, reduceCtorEq, Int.reduceEq, Int.reduceNe, hw]
    refine AtFn.pure0 (side74 _) ?_
    simp -dsimp -implicitDefEqProofs (maxSteps := 1000000) only [go_sem, ↓reduceIte, Nat.reduceAdd, Nat.reduceSub, Nat.reduceMul, Nat.reduceLT, Nat.reduceLeDiff, Nat.reduceEqDiff, Nat.reduceBEq, Nat.reduceBNe, Int.reduceToNat, Int.reduceLT, Int.reduceLE, Int.reduceNeg, reduceCtorEq, Int.reduceEq, Int.reduceNe, hh]
    refine AtFn.pure0 (ink67 _) ?_
    simp -dsimp -implicitDefEqProofs (maxSteps := 1000000) only [go_sem, ↓reduceIte, Nat.reduceAdd, Nat.reduceSub, Nat.reduceMul, Nat.reduceLT, Nat.reduceLeDiff, Nat.reduceEqDiff, Nat.reduceBEq, Nat.reduceBNe, Int.reduceToNat, Int.reduceLT, Int.reduceLE, Int.reduceNeg, reduceCtorEq, Int.reduceEq, Int.reduceNe, hn]
    refine AtFn.pure hm ?_
    simp -dsimp -implicitDefEqProofs (maxSteps := 1000000) only [go_sem, ↓reduceIte, Nat.reduceAdd, Nat.reduceSub, Nat.reduceMul, Nat.reduceLT, Nat.reduceLeDiff, Nat.reduceEqDiff, Nat.reduceBEq, Nat.reduceBNe, Int.reduceToNat, Int.reduceLT, Int.reduceLE, Int.reduceNeg, reduceCtorEq, Int.reduceEq, Int.reduceNe]
    rfl
  · have hc : (sideB w && sideB h && inkB n) = false := by simpa using hc
    refine pE hc ?_
    refine PFun.intro 400 mixed Tryd.func33 (by kernel_rfl) rfl (by first | exact .v _ | (simp [Cl_v, Cl_t, Cl_g, Cl_fn, Cl_rp, Cl_ro]; done) | (simp [Cl_v, Cl_t, Cl_g, Cl_fn, Cl_rp, Cl_ro, or_imp, forall_and]; done) | (split <;> simp [Cl_v, Cl_t, Cl_g, Cl_fn, Cl_rp, Cl_ro])) (Nat.le_of_ble_eq_true rfl) ?_; rw [Tryd.ntmps33, Tryd.results33]
    simp -dsimp -implicitDefEqProofs (maxSteps := 1000000) only [go_sem, ↓reduceIte, Nat.reduceAdd, Nat.reduceSub, Nat.reduceMul, Nat.reduceLT, Nat.reduceLeDiff, Nat.reduceEqDiff, Nat.reduceBEq, Nat.reduceBNe, Int.reduceToNat, Int.reduceLT, Int.reduceLE, Int.reduceNeg, reduceCtorEq, Int.reduceEq, Int.reduceNe]
    repeat' (first | (apply And.intro <;> (try intro _) <;> try simp -dsimp -implicitDefEqProofs (maxSteps := 1000000) only [go_sem, ↓reduceIte, Nat.reduceAdd, Nat.reduceSub, Nat.reduceMul, Nat.reduceLT, Nat.reduceLeDiff, Nat.reduceEqDiff, Nat.reduceBEq, Nat.reduceBNe, Int.reduceToNat, Int.reduceLT, Int.reduceLE, Int.reduceNeg, reduceCtorEq, Int.reduceEq, Int.reduceNe]) | (refine AtFn.pure0 (side74 _) ?_; try simp -dsimp -implicitDefEqProofs (maxSteps := 1000000) only [go_sem, ↓reduceIte, Nat.reduceAdd, Nat.reduceSub, Nat.reduceMul, Nat.reduceLT, Nat.reduceLeDiff, Nat.reduceEqDiff, Nat.reduceBEq, Nat.reduceBNe, Int.reduceToNat, Int.reduceLT, Int.reduceLE, Int.reduceNeg, reduceCtorEq, Int.reduceEq, Int.reduceNe]) | (refine AtFn.pure0 (ink67 _) ?_; try simp -dsimp -implicitDefEqProofs (maxSteps := 1000000) only [go_sem, ↓reduceIte, Nat.reduceAdd, Nat.reduceSub, Nat.reduceMul, Nat.reduceLT, Nat.reduceLeDiff, Nat.reduceEqDiff, Nat.reduceBEq, Nat.reduceBNe, Int.reduceToNat, Int.reduceLT, Int.reduceLE, Int.reduceNeg, reduceCtorEq, Int.reduceEq, Int.reduceNe]) | (refine AtFn.pure0 (none53 2) ?_; try simp -dsimp -implicitDefEqProofs (maxSteps := 1000000) only [go_sem, ↓reduceIte, Nat.reduceAdd, Nat.reduceSub, Nat.reduceMul, Nat.reduceLT, Nat.reduceLeDiff, Nat.reduceEqDiff, Nat.reduceBEq, Nat.reduceBNe, Int.reduceToNat, Int.reduceLT, Int.reduceLE, Int.reduceNeg, reduceCtorEq, Int.reduceEq, Int.reduceNe]))
    all_goals (exfalso; simp_all)
def turnP (r : Ra) : Ra × Int := if vaB r then (mkR r.h.toNat r.w.toNat fun i j => px r.p r.w.toNat j (r.h.toNat - 1 - i), 0) else (raZ, 2)
def mirrorP (r : Ra) : Ra × Int := if vaB r then (mkR r.w.toNat r.h.toNat fun i j => px r.p r.w.toNat (r.w.toNat - 1 - i) j, 0) else (raZ, 2)
def invertP (r : Ra) : Ra × Int := if vaB r then (mkR r.w.toNat r.h.toNat fun i j => IntKind.u8.wrap (255 - px r.p r.w.toNat i j), 0) else (raZ, 2)
theorem turn42 (r : Ra) : PFun Tryd.prog 42 [RaA r] (RE (turnP r)) := by
  have hv := valid62 r
  unfold turnP
  by_cases hc : vaB r = true
  · refine pT hc ?_
    obtain ⟨w, h, p, rfl, w1, w2, h1, h2, hlen⟩ := vaR_of hc
    have hm := made69 h w h1 h2 w1 w2 80 [.rp [I (w : Int), I (h : Int), .ro 1 (pxC p)] 0] (by simp [Cl_rp, Cl_v, Cl_ro, clPxT]) _ (fun i j hi hj => turn80 w h p w2 h2 hlen i j hi hj)
    refine PFun.intro 400 mixed Tryd.func42 (by kernel_rfl) rfl (clRE _) (Nat.le_of_ble_eq_true rfl) ?_; rw [Tryd.ntmps42, Tryd.results42]
    simp -dsimp -implicitDefEqProofs (maxSteps := 1000000) only [go_sem, ↓reduceIte, Nat.reduceAdd, Nat.reduceSub, Nat.reduceMul, Nat.reduceLT, Nat.reduceLeDiff, Nat.reduceEqDiff, Nat.reduceBEq, Nat.reduceBNe, Int.reduceToNat, Int.reduceLT, Int.reduceLE, Int.reduceNeg, reduceCtorEq, Int.reduceEq, Int.reduceNe]
    refine AtFn.pure0 hv ?_
    simp -dsimp -implicitDefEqProofs (maxSteps := 1000000) only [go_sem, ↓reduceIte, Nat.reduceAdd, Nat.reduceSub, Nat.reduceMul, Nat.reduceLT, Nat.reduceLeDiff, Nat.reduceEqDiff, Nat.reduceBEq, Nat.reduceBNe, Int.reduceToNat, Int.reduceLT, Int.reduceLE, Int.reduceNeg, reduceCtorEq, Int.reduceEq, Int.reduceNe, hc]
    refine AtFn.pure hm ?_
    simp -dsimp -implicitDefEqProofs (maxSteps := 1000000) only [go_sem, ↓reduceIte, Nat.reduceAdd, Nat.reduceSub, Nat.reduceMul, Nat.reduceLT, Nat.reduceLeDiff, Nat.reduceEqDiff, Nat.reduceBEq, Nat.reduceBNe, Int.reduceToNat, Int.reduceLT, Int.reduceLE, Int.reduceNeg, reduceCtorEq, Int.reduceEq, Int.reduceNe, clPxT]
    rfl
  · have hc : vaB r = false := by simpa using hc
    refine pE hc ?_
    obtain ⟨w, h, p⟩ := r
    refine PFun.intro 400 mixed Tryd.func42 (by kernel_rfl) rfl (by first | exact .v _ | (simp [Cl_v, Cl_t, Cl_g, Cl_fn, Cl_rp, Cl_ro]; done) | (simp [Cl_v, Cl_t, Cl_g, Cl_fn, Cl_rp, Cl_ro, or_imp, forall_and]; done) | (split <;> simp [Cl_v, Cl_t, Cl_g, Cl_fn, Cl_rp, Cl_ro])) (Nat.le_of_ble_eq_true rfl) ?_; rw [Tryd.ntmps42, Tryd.results42]
    simp -dsimp -implicitDefEqProofs (maxSteps := 1000000) only [go_sem, ↓reduceIte, Nat.reduceAdd, Nat.reduceSub, Nat.reduceMul, Nat.reduceLT, Nat.reduceLeDiff, Nat.reduceEqDiff, Nat.reduceBEq, Nat.reduceBNe, Int.reduceToNat, Int.reduceLT, Int.reduceLE, Int.reduceNeg, reduceCtorEq, Int.reduceEq, Int.reduceNe]
    refine AtFn.pure0 hv ?_
    simp -dsimp -implicitDefEqProofs (maxSteps := 1000000) only [go_sem, ↓reduceIte, Nat.reduceAdd, Nat.reduceSub, Nat.reduceMul, Nat.reduceLT, Nat.reduceLeDiff, Nat.reduceEqDiff, Nat.reduceBEq, Nat.reduceBNe, Int.reduceToNat, Int.reduceLT, Int.reduceLE, Int.reduceNeg, reduceCtorEq, Int.reduceEq, Int.reduceNe, hc]
    refine AtFn.pure0 (none53 2) ?_
    simp -dsimp -implicitDefEqProofs (maxSteps := 1000000) only [go_sem, ↓reduceIte, Nat.reduceAdd, Nat.reduceSub, Nat.reduceMul, Nat.reduceLT, Nat.reduceLeDiff, Nat.reduceEqDiff, Nat.reduceBEq, Nat.reduceBNe, Int.reduceToNat, Int.reduceLT, Int.reduceLE, Int.reduceNeg, reduceCtorEq, Int.reduceEq, Int.reduceNe]
theorem mirror43 (r : Ra) : PFun Tryd.prog 43 [RaA r] (RE (mirrorP r)) := by
  have hv := valid62 r
  unfold mirrorP
  by_cases hc : vaB r = true
  · refine pT hc ?_
    obtain ⟨w, h, p, rfl, w1, w2, h1, h2, hlen⟩ := vaR_of hc
    have hm := made69 w h w1 w2 h1 h2 81 [.rp [I (w : Int), I (h : Int), .ro 1 (pxC p)] 0] (by simp [Cl_rp, Cl_v, Cl_ro, clPxT]) _ (fun i j hi hj => mirror81 w h p w2 h2 hlen i j hi hj)
    refine PFun.intro 400 mixed Tryd.func43 (by kernel_rfl) rfl (clRE _) (Nat.le_of_ble_eq_true rfl) ?_; rw [Tryd.ntmps43, Tryd.results43]
    simp -dsimp -implicitDefEqProofs (maxSteps := 1000000) only [go_sem, ↓reduceIte, Nat.reduceAdd, Nat.reduceSub, Nat.reduceMul, Nat.reduceLT, Nat.reduceLeDiff, Nat.reduceEqDiff, Nat.reduceBEq, Nat.reduceBNe, Int.reduceToNat, Int.reduceLT, Int.reduceLE, Int.reduceNeg, reduceCtorEq, Int.reduceEq, Int.reduceNe]
    refine AtFn.pure0 hv ?_
    simp -dsimp -implicitDefEqProofs (maxSteps := 1000000) only [go_sem, ↓reduceIte, Nat.reduceAdd, Nat.reduceSub, Nat.reduceMul, Nat.reduceLT, Nat.reduceLeDiff, Nat.reduceEqDiff, Nat.reduceBEq, Nat.reduceBNe, Int.reduceToNat, Int.reduceLT, Int.reduceLE, Int.reduceNeg, reduceCtorEq, Int.reduceEq, Int.reduceNe, hc]
    refine AtFn.pure hm ?_
    simp -dsimp -implicitDefEqProofs (maxSteps := 1000000) only [go_sem, ↓reduceIte, Nat.reduceAdd, Nat.reduceSub, Nat.reduceMul, Nat.reduceLT, Nat.reduceLeDiff, Nat.reduceEqDiff, Nat.reduceBEq, Nat.reduceBNe, Int.reduceToNat, Int.reduceLT, Int.reduceLE, Int.reduceNeg, reduceCtorEq, Int.reduceEq, Int.reduceNe, clPxT]
    rfl
  · have hc : vaB r = false := by simpa using hc
    refine pE hc ?_
    obtain ⟨w, h, p⟩ := r
    refine PFun.intro 400 mixed Tryd.func43 (by kernel_rfl) rfl (by first | exact .v _ | (simp [Cl_v, Cl_t, Cl_g, Cl_fn, Cl_rp, Cl_ro]; done) | (simp [Cl_v, Cl_t, Cl_g, Cl_fn, Cl_rp, Cl_ro, or_imp, forall_and]; done) | (split <;> simp [Cl_v, Cl_t, Cl_g, Cl_fn, Cl_rp, Cl_ro])) (Nat.le_of_ble_eq_true rfl) ?_; rw [Tryd.ntmps43, Tryd.results43]
    simp -dsimp -implicitDefEqProofs (maxSteps := 1000000) only [go_sem, ↓reduceIte, Nat.reduceAdd, Nat.reduceSub, Nat.reduceMul, Nat.reduceLT, Nat.reduceLeDiff, Nat.reduceEqDiff, Nat.reduceBEq, Nat.reduceBNe, Int.reduceToNat, Int.reduceLT, Int.reduceLE, Int.reduceNeg, reduceCtorEq, Int.reduceEq, Int.reduceNe]
    refine AtFn.pure0 hv ?_
    simp -dsimp -implicitDefEqProofs (maxSteps := 1000000) only [go_sem, ↓reduceIte, Nat.reduceAdd, Nat.reduceSub, Nat.reduceMul, Nat.reduceLT, Nat.reduceLeDiff, Nat.reduceEqDiff, Nat.reduceBEq, Nat.reduceBNe, Int.reduceToNat, Int.reduceLT, Int.reduceLE, Int.reduceNeg, reduceCtorEq, Int.reduceEq, Int.reduceNe, hc]
    refine AtFn.pure0 (none53 2) ?_
    simp -dsimp -implicitDefEqProofs (maxSteps := 1000000) only [go_sem, ↓reduceIte, Nat.reduceAdd, Nat.reduceSub, Nat.reduceMul, Nat.reduceLT, Nat.reduceLeDiff, Nat.reduceEqDiff, Nat.reduceBEq, Nat.reduceBNe, Int.reduceToNat, Int.reduceLT, Int.reduceLE, Int.reduceNeg, reduceCtorEq, Int.reduceEq, Int.reduceNe]
theorem invert44 (r : Ra) : PFun Tryd.prog 44 [RaA r] (RE (invertP r)) := by
  have hv := valid62 r
  unfold invertP
  by_cases hc : vaB r = true
  · refine pT hc ?_
    obtain ⟨w, h, p, rfl, w1, w2, h1, h2, hlen⟩ := vaR_of hc
    have hm := made69 w h w1 w2 h1 h2 82 [.rp [I (w : Int), I (h : Int), .ro 1 (pxC p)] 0] (by simp [Cl_rp, Cl_v, Cl_ro, clPxT]) _ (fun i j hi hj => invert82 w h p w2 h2 hlen i j hi hj)
    refine PFun.intro 400 mixed Tryd.func44 (by kernel_rfl) rfl (clRE _) (Nat.le_of_ble_eq_true rfl) ?_; rw [Tryd.ntmps44, Tryd.results44]
    simp -dsimp -implicitDefEqProofs (maxSteps := 1000000) only [go_sem, ↓reduceIte, Nat.reduceAdd, Nat.reduceSub, Nat.reduceMul, Nat.reduceLT, Nat.reduceLeDiff, Nat.reduceEqDiff, Nat.reduceBEq, Nat.reduceBNe, Int.reduceToNat, Int.reduceLT, Int.reduceLE, Int.reduceNeg, reduceCtorEq, Int.reduceEq, Int.reduceNe]
    refine AtFn.pure0 hv ?_
    simp -dsimp -implicitDefEqProofs (maxSteps := 1000000) only [go_sem, ↓reduceIte, Nat.reduceAdd, Nat.reduceSub, Nat.reduceMul, Nat.reduceLT, Nat.reduceLeDiff, Nat.reduceEqDiff, Nat.reduceBEq, Nat.reduceBNe, Int.reduceToNat, Int.reduceLT, Int.reduceLE, Int.reduceNeg, reduceCtorEq, Int.reduceEq, Int.reduceNe, hc]
    refine AtFn.pure hm ?_
    simp -dsimp -implicitDefEqProofs (maxSteps := 1000000) only [go_sem, ↓reduceIte, Nat.reduceAdd, Nat.reduceSub, Nat.reduceMul, Nat.reduceLT, Nat.reduceLeDiff, Nat.reduceEqDiff, Nat.reduceBEq, Nat.reduceBNe, Int.reduceToNat, Int.reduceLT, Int.reduceLE, Int.reduceNeg, reduceCtorEq, Int.reduceEq, Int.reduceNe, clPxT]
    rfl
  · have hc : vaB r = false := by simpa using hc
    refine pE hc ?_
    obtain ⟨w, h, p⟩ := r
    refine PFun.intro 400 mixed Tryd.func44 (by kernel_rfl) rfl (by first | exact .v _ | (simp [Cl_v, Cl_t, Cl_g, Cl_fn, Cl_rp, Cl_ro]; done) | (simp [Cl_v, Cl_t, Cl_g, Cl_fn, Cl_rp, Cl_ro, or_imp, forall_and]; done) | (split <;> simp [Cl_v, Cl_t, Cl_g, Cl_fn, Cl_rp, Cl_ro])) (Nat.le_of_ble_eq_true rfl) ?_; rw [Tryd.ntmps44, Tryd.results44]
    simp -dsimp -implicitDefEqProofs (maxSteps := 1000000) only [go_sem, ↓reduceIte, Nat.reduceAdd, Nat.reduceSub, Nat.reduceMul, Nat.reduceLT, Nat.reduceLeDiff, Nat.reduceEqDiff, Nat.reduceBEq, Nat.reduceBNe, Int.reduceToNat, Int.reduceLT, Int.reduceLE, Int.reduceNeg, reduceCtorEq, Int.reduceEq, Int.reduceNe]
    refine AtFn.pure0 hv ?_
    simp -dsimp -implicitDefEqProofs (maxSteps := 1000000) only [go_sem, ↓reduceIte, Nat.reduceAdd, Nat.reduceSub, Nat.reduceMul, Nat.reduceLT, Nat.reduceLeDiff, Nat.reduceEqDiff, Nat.reduceBEq, Nat.reduceBNe, Int.reduceToNat, Int.reduceLT, Int.reduceLE, Int.reduceNeg, reduceCtorEq, Int.reduceEq, Int.reduceNe, hc]
    refine AtFn.pure0 (none53 2) ?_
    simp -dsimp -implicitDefEqProofs (maxSteps := 1000000) only [go_sem, ↓reduceIte, Nat.reduceAdd, Nat.reduceSub, Nat.reduceMul, Nat.reduceLT, Nat.reduceLeDiff, Nat.reduceEqDiff, Nat.reduceBEq, Nat.reduceBNe, Int.reduceToNat, Int.reduceLT, Int.reduceLE, Int.reduceNeg, reduceCtorEq, Int.reduceEq, Int.reduceNe]
def cropC (r : Ra) (x y w h : Int) : Bool := decide (1 ≤ w) && decide (1 ≤ h) && decide (0 ≤ x) && decide (0 ≤ y) && decide (x < r.w) && decide (y < r.h) && decide (w ≤ r.w - x) && decide (h ≤ r.h - y)
def cropP (r : Ra) (x y w h : Int) : Ra × Int := if vaB r then (if cropC r x y w h then (mkR w.toNat h.toNat fun i j => px r.p r.w.toNat (x.toNat + i) (y.toNat + j), 0) else (raZ, 17)) else (raZ, 2)
theorem crop45 (r : Ra) (x y w h : Int) : PFun Tryd.prog 45 [RaA r, I x, I y, I w, I h] (RE (cropP r x y w h)) := by
  have hv := valid62 r
  unfold cropP
  by_cases hc : vaB r = true
  · refine pT hc ?_
    obtain ⟨w0, h0, p, rfl, w1, w2, h1, h2, hlen⟩ := vaR_of hc
    by_cases hd : cropC ⟨w0, h0, p⟩ x y w h = true
    · refine pT hd ?_
      simp only [cropC, Bool.and_eq_true, decide_eq_true_eq] at hd
      obtain ⟨⟨⟨⟨⟨⟨⟨d1, d2⟩, d3⟩, d4⟩, d5⟩, d6⟩, d7⟩, d8⟩ := hd
      obtain ⟨x, rfl⟩ := Int.eq_ofNat_of_zero_le d3
      obtain ⟨y, rfl⟩ := Int.eq_ofNat_of_zero_le d4
      obtain ⟨w, rfl⟩ := Int.eq_ofNat_of_zero_le (show 0 ≤ w by omega)
      obtain ⟨h, rfl⟩ := Int.eq_ofNat_of_zero_le (show 0 ≤ h by omega)
      have hm := made69 w h (by omega) (by omega) (by omega) (by omega) 83 [.rp [I (w0 : Int), I (h0 : Int), .ro 1 (pxC p)] 0, .rp [I (y : Int)] 0, .rp [I (x : Int)] 0] (by simp [Cl_rp, Cl_v, Cl_ro, clPxT]) _ (fun i j hi hj => crop83 w0 h0 p w2 h2 hlen x y i j (by omega) (by omega))
      have f1 : ¬ (w : Int) < 1 := by omega
      have f2 : ¬ (h : Int) < 1 := by omega
      have f3 : ¬ (x : Int) < 0 := by omega
      have f4 : ¬ (y : Int) < 0 := by omega
      have f5 : ¬ (w0 : Int) ≤ x := by omega
      have f6 : ¬ (h0 : Int) ≤ y := by omega
      have g1 := wrS (a := w0) (b := x) (by omega) (by omega)
      have g2 := wrS (a := h0) (b := y) (by omega) (by omega)
      have f7 : ¬ ((w0 - x : Nat) : Int) < w := by omega
      have f8 : ¬ ((h0 - y : Nat) : Int) < h := by omega
      refine PFun.intro 400 mixed Tryd.func45 (by kernel_rfl) rfl (clRE _) (Nat.le_of_ble_eq_true rfl) ?_; rw [Tryd.ntmps45, Tryd.results45]
      simp -dsimp -implicitDefEqProofs (maxSteps := 1000000) only [go_sem, ↓reduceIte, Nat.reduceAdd, Nat.reduceSub, Nat.reduceMul, Nat.reduceLT, Nat.reduceLeDiff, Nat.reduceEqDiff, Nat.reduceBEq, Nat.reduceBNe, Int.reduceToNat, Int.reduceLT, Int.reduceLE, Int.reduceNeg, reduceCtorEq, Int.reduceEq, Int.reduceNe]
      refine AtFn.pure0 hv ?_
      simp -dsimp -implicitDefEqProofs (maxSteps := 1000000) only [go_sem, ↓reduceIte, Nat.reduceAdd, Nat.reduceSub, Nat.reduceMul, Nat.reduceLT, Nat.reduceLeDiff, Nat.reduceEqDiff, Nat.reduceBEq, Nat.reduceBNe, Int.reduceToNat, Int.reduceLT, Int.reduceLE, Int.reduceNeg, reduceCtorEq, Int.reduceEq, Int.reduceNe, hc, f1, f2, f3, f4, f5, f6, g1, g2, f7, f8]
      refine AtFn.pure hm ?_
      simp -dsimp -implicitDefEqProofs (maxSteps := 1000000) only [go_sem, ↓reduceIte, Nat.reduceAdd, Nat.reduceSub, Nat.reduceMul, Nat.reduceLT, Nat.reduceLeDiff, Nat.reduceEqDiff, Nat.reduceBEq, Nat.reduceBNe, Int.reduceToNat, Int.reduceLT, Int.reduceLE, Int.reduceNeg, reduceCtorEq, Int.reduceEq, Int.reduceNe, clPxT]
      rfl
    · have hd : cropC ⟨w0, h0, p⟩ x y w h = false := by simpa using hd
      refine pE hd ?_
      refine PFun.intro 400 mixed Tryd.func45 (by kernel_rfl) rfl (by first | exact .v _ | (simp [Cl_v, Cl_t, Cl_g, Cl_fn, Cl_rp, Cl_ro]; done) | (simp [Cl_v, Cl_t, Cl_g, Cl_fn, Cl_rp, Cl_ro, or_imp, forall_and]; done) | (split <;> simp [Cl_v, Cl_t, Cl_g, Cl_fn, Cl_rp, Cl_ro])) (Nat.le_of_ble_eq_true rfl) ?_; rw [Tryd.ntmps45, Tryd.results45]
      simp -dsimp -implicitDefEqProofs (maxSteps := 1000000) only [go_sem, ↓reduceIte, Nat.reduceAdd, Nat.reduceSub, Nat.reduceMul, Nat.reduceLT, Nat.reduceLeDiff, Nat.reduceEqDiff, Nat.reduceBEq, Nat.reduceBNe, Int.reduceToNat, Int.reduceLT, Int.reduceLE, Int.reduceNeg, reduceCtorEq, Int.reduceEq, Int.reduceNe]
      refine AtFn.pure0 hv ?_
      simp -dsimp -implicitDefEqProofs (maxSteps := 1000000) only [go_sem, ↓reduceIte, Nat.reduceAdd, Nat.reduceSub, Nat.reduceMul, Nat.reduceLT, Nat.reduceLeDiff, Nat.reduceEqDiff, Nat.reduceBEq, Nat.reduceBNe, Int.reduceToNat, Int.reduceLT, Int.reduceLE, Int.reduceNeg, reduceCtorEq, Int.reduceEq, Int.reduceNe, hc]
      repeat' (first | (apply And.intro <;> (try intro _) <;> try simp -dsimp -implicitDefEqProofs (maxSteps := 1000000) only [go_sem, ↓reduceIte, Nat.reduceAdd, Nat.reduceSub, Nat.reduceMul, Nat.reduceLT, Nat.reduceLeDiff, Nat.reduceEqDiff, Nat.reduceBEq, Nat.reduceBNe, Int.reduceToNat, Int.reduceLT, Int.reduceLE, Int.reduceNeg, reduceCtorEq, Int.reduceEq, Int.reduceNe]) | (refine AtFn.pure0 (none53 17) ?_; try simp -dsimp -implicitDefEqProofs (maxSteps := 1000000) only [go_sem, ↓reduceIte, Nat.reduceAdd, Nat.reduceSub, Nat.reduceMul, Nat.reduceLT, Nat.reduceLeDiff, Nat.reduceEqDiff, Nat.reduceBEq, Nat.reduceBNe, Int.reduceToNat, Int.reduceLT, Int.reduceLE, Int.reduceNeg, reduceCtorEq, Int.reduceEq, Int.reduceNe]))
      all_goals (exfalso; simp only [cropC, Bool.and_eq_false_iff, decide_eq_false_iff_not] at hd; have z1 : wr ((w0 : Int) - x) = w0 - x := wr_in (by omega) (by omega); have z2 : wr ((h0 : Int) - y) = h0 - y := wr_in (by omega) (by omega); rename_i q1 q2; rw [z1] at q1; rw [z2] at q2; omega)
  · have hc : vaB r = false := by simpa using hc
    refine pE hc ?_
    obtain ⟨w', h', p⟩ := r
    refine PFun.intro 400 mixed Tryd.func45 (by kernel_rfl) rfl (by first | exact .v _ | (simp [Cl_v, Cl_t, Cl_g, Cl_fn, Cl_rp, Cl_ro]; done) | (simp [Cl_v, Cl_t, Cl_g, Cl_fn, Cl_rp, Cl_ro, or_imp, forall_and]; done) | (split <;> simp [Cl_v, Cl_t, Cl_g, Cl_fn, Cl_rp, Cl_ro])) (Nat.le_of_ble_eq_true rfl) ?_; rw [Tryd.ntmps45, Tryd.results45]
    simp -dsimp -implicitDefEqProofs (maxSteps := 1000000) only [go_sem, ↓reduceIte, Nat.reduceAdd, Nat.reduceSub, Nat.reduceMul, Nat.reduceLT, Nat.reduceLeDiff, Nat.reduceEqDiff, Nat.reduceBEq, Nat.reduceBNe, Int.reduceToNat, Int.reduceLT, Int.reduceLE, Int.reduceNeg, reduceCtorEq, Int.reduceEq, Int.reduceNe]
    refine AtFn.pure0 hv ?_
    simp -dsimp -implicitDefEqProofs (maxSteps := 1000000) only [go_sem, ↓reduceIte, Nat.reduceAdd, Nat.reduceSub, Nat.reduceMul, Nat.reduceLT, Nat.reduceLeDiff, Nat.reduceEqDiff, Nat.reduceBEq, Nat.reduceBNe, Int.reduceToNat, Int.reduceLT, Int.reduceLE, Int.reduceNeg, reduceCtorEq, Int.reduceEq, Int.reduceNe, hc]
    refine AtFn.pure0 (none53 2) ?_
    simp -dsimp -implicitDefEqProofs (maxSteps := 1000000) only [go_sem, ↓reduceIte, Nat.reduceAdd, Nat.reduceSub, Nat.reduceMul, Nat.reduceLT, Nat.reduceLeDiff, Nat.reduceEqDiff, Nat.reduceBEq, Nat.reduceBNe, Int.reduceToNat, Int.reduceLT, Int.reduceLE, Int.reduceNeg, reduceCtorEq, Int.reduceEq, Int.reduceNe]
theorem has_of {w h : Nat} {p : List Int} {x y : Int} (hb : hasB ⟨w, h, p⟩ x y = true) : ∃ i j : Nat, x = i ∧ y = j ∧ i < w ∧ j < h := by
  simp only [hasB, Bool.and_eq_true, decide_eq_true_eq] at hb
  obtain ⟨i, rfl⟩ := Int.eq_ofNat_of_zero_le hb.1.1.1
  obtain ⟨j, rfl⟩ := Int.eq_ofNat_of_zero_le hb.1.2
  exact ⟨i, j, rfl, rfl, by omega, by omega⟩
end

section
set_option maxRecDepth 20000
attribute [local go_sem] clPxT
theorem onePx (l : List Int) : (∀ c ∈ pxC l, ∀ s ∈ c, oneA s = true) := fun c hc s hs => by
  obtain ⟨x, _, rfl⟩ := List.mem_map.1 hc
  rw [List.mem_singleton.1 hs]; rfl
theorem onePxT (l : List Int) : (∀ c ∈ pxC l, ∀ s ∈ c, oneA s = true) ↔ True := iff_true_intro (onePx l)
theorem clone92 (l : List Int) (hl : l.length ≤ 4294967296) : NFun Tryd.prog 92 [.ro 1 (pxC l)] 1 (pxC l) := by
  refine MFun.toN ?_ (clPx l)
  refine MFun.intro 400 [2] mixed Tryd.func92 (by kernel_rfl) rfl (by rw [Tryd.results92]; rfl) (Nat.le_of_ble_eq_true rfl) ?_; rw [Tryd.ntmps92]
  simp -dsimp -implicitDefEqProofs (maxSteps := 1000000) only [go_sem, ↓reduceIte, Nat.reduceAdd, Nat.reduceSub, Nat.reduceMul, Nat.reduceLT, Nat.reduceLeDiff, Nat.reduceEqDiff, Nat.reduceBEq, Nat.reduceBNe, Int.reduceToNat, Int.reduceLT, Int.reduceLE, Int.reduceNeg, reduceCtorEq, Int.reduceEq, Int.reduceNe]
  refine AtOp.isnil (d := 5) rfl (by kernel_rfl) (by simp -dsimp -implicitDefEqProofs (maxSteps := 1000000) only [go_sem, ↓reduceIte, Nat.reduceAdd, Nat.reduceSub, Nat.reduceMul, Nat.reduceLT, Nat.reduceLeDiff, Nat.reduceEqDiff, Nat.reduceBEq, Nat.reduceBNe, Int.reduceToNat, Int.reduceLT, Int.reduceLE, Int.reduceNeg, reduceCtorEq, Int.reduceEq, Int.reduceNe]; rfl) fun b hb => ?_
  simp -dsimp -implicitDefEqProofs (maxSteps := 1000000) only [go_sem, ↓reduceIte, Nat.reduceAdd, Nat.reduceSub, Nat.reduceMul, Nat.reduceLT, Nat.reduceLeDiff, Nat.reduceEqDiff, Nat.reduceBEq, Nat.reduceBNe, Int.reduceToNat, Int.reduceLT, Int.reduceLE, Int.reduceNeg, reduceCtorEq, Int.reduceEq, Int.reduceNe]
  refine ⟨fun h => ?_, fun h => ?_⟩
  · have hl0 : l = [] := by
      cases l with
      | nil => rfl
      | cons x r => exact absurd (hb (by simp [pxC])) (by rw [h]; simp)
    subst hl0
    exact FinM.mk0 [] (by simp -dsimp -implicitDefEqProofs (maxSteps := 1000000) only [go_sem, ↓reduceIte, Nat.reduceAdd, Nat.reduceSub, Nat.reduceMul, Nat.reduceLT, Nat.reduceLeDiff, Nat.reduceEqDiff, Nat.reduceBEq, Nat.reduceBNe, Int.reduceToNat, Int.reduceLT, Int.reduceLE, Int.reduceNeg, reduceCtorEq, Int.reduceEq, Int.reduceNe]) (by simp -dsimp -implicitDefEqProofs (maxSteps := 1000000) only [go_sem, ↓reduceIte, Nat.reduceAdd, Nat.reduceSub, Nat.reduceMul, Nat.reduceLT, Nat.reduceLeDiff, Nat.reduceEqDiff, Nat.reduceBEq, Nat.reduceBNe, Int.reduceToNat, Int.reduceLT, Int.reduceLE, Int.reduceNeg, reduceCtorEq, Int.reduceEq, Int.reduceNe]) (by simp) (by simp [sg])
  · have hl2 : l.length ≤ 274877906944 := by omega
    simp -dsimp -implicitDefEqProofs (maxSteps := 1000000) only [go_sem, ↓reduceIte, Nat.reduceAdd, Nat.reduceSub, Nat.reduceMul, Nat.reduceLT, Nat.reduceLeDiff, Nat.reduceEqDiff, Nat.reduceBEq, Nat.reduceBNe, Int.reduceToNat, Int.reduceLT, Int.reduceLE, Int.reduceNeg, reduceCtorEq, Int.reduceEq, Int.reduceNe, pxC_len]
    refine AtOp.appE _ _ _ _ _ _ _ _ _ _ _ _ _ _ (by kernel_rfl) ?_
    simp -dsimp -implicitDefEqProofs (maxSteps := 1000000) only [go_sem, ↓reduceIte, Nat.reduceAdd, Nat.reduceSub, Nat.reduceMul, Nat.reduceLT, Nat.reduceLeDiff, Nat.reduceEqDiff, Nat.reduceBEq, Nat.reduceBNe, Int.reduceToNat, Int.reduceLT, Int.reduceLE, Int.reduceNeg, reduceCtorEq, Int.reduceEq, Int.reduceNe, pxC_len, onePxT, hl2]
    exact ⟨by omega, FinM.mk0 [(0, 1)] (by simp -dsimp -implicitDefEqProofs (maxSteps := 1000000) only [go_sem, ↓reduceIte, Nat.reduceAdd, Nat.reduceSub, Nat.reduceMul, Nat.reduceLT, Nat.reduceLeDiff, Nat.reduceEqDiff, Nat.reduceBEq, Nat.reduceBNe, Int.reduceToNat, Int.reduceLT, Int.reduceLE, Int.reduceNeg, reduceCtorEq, Int.reduceEq, Int.reduceNe]) (by simp -dsimp -implicitDefEqProofs (maxSteps := 1000000) only [go_sem, ↓reduceIte, Nat.reduceAdd, Nat.reduceSub, Nat.reduceMul, Nat.reduceLT, Nat.reduceLeDiff, Nat.reduceEqDiff, Nat.reduceBEq, Nat.reduceBNe, Int.reduceToNat, Int.reduceLT, Int.reduceLE, Int.reduceNeg, reduceCtorEq, Int.reduceEq, Int.reduceNe]; exact renL_cl rfl (clPx l)) (by simp) (by simp [sg])⟩
theorem renG3 (nm : Nat) (w h : Int) (n : Nat) : Ren (fun _ => nm) [0] (.g [I w, I h, .sl nm 0 n]) (.g [I w, I h, .sl 0 0 n]) := .g rfl fun k a b ha hb => by
    match k with
    | 0 => simp at ha hb; subst ha; subst hb; exact .cl (.v _)
    | 1 => simp at ha hb; subst ha; subst hb; exact .cl (.v _)
    | 2 => simp at ha hb; subst ha; subst hb; exact .sl (σ := fun _ => nm) (List.mem_singleton.2 rfl)
    | k + 3 => simp at ha
theorem clone72 (w h : Int) (p : List Int) (hl : p.length ≤ 4294967296) : RFun Tryd.prog 72 [.g [I w, I h, .ro 1 (pxC p)]] 1 (pxC p) (.g [I w, I h, .sl 0 0 p.length]) := by
  refine RFun.intro 400 2 mixed Tryd.func72 (by kernel_rfl) rfl (clPx _) (Nat.le_of_ble_eq_true rfl) ?_; rw [Tryd.ntmps72, Tryd.results72]
  simp -dsimp -implicitDefEqProofs (maxSteps := 1000000) only [go_sem, ↓reduceIte, Nat.reduceAdd, Nat.reduceSub, Nat.reduceMul, Nat.reduceLT, Nat.reduceLeDiff, Nat.reduceEqDiff, Nat.reduceBEq, Nat.reduceBNe, Int.reduceToNat, Int.reduceLT, Int.reduceLE, Int.reduceNeg, reduceCtorEq, Int.reduceEq, Int.reduceNe]
  refine AtFn.new (clone92 p hl) ?_
  simp -dsimp -implicitDefEqProofs (maxSteps := 1000000) only [go_sem, ↓reduceIte, Nat.reduceAdd, Nat.reduceSub, Nat.reduceMul, Nat.reduceLT, Nat.reduceLeDiff, Nat.reduceEqDiff, Nat.reduceBEq, Nat.reduceBNe, Int.reduceToNat, Int.reduceLT, Int.reduceLE, Int.reduceNeg, reduceCtorEq, Int.reduceEq, Int.reduceNe, pxC_len]
  exact renG3 _ _ _ _
end

section
set_option maxRecDepth 20000
attribute [local go_sem] clPxT
theorem divmod_eq {k h a b : Nat} (ha : a < h) : k = b * h + a ↔ k / h = b ∧ k % h = a := by
  constructor
  · rintro rfl
    rw [Nat.mul_comm b, Nat.mul_add_div (by omega), Nat.div_eq_of_lt ha, Nat.mul_add_mod, Nat.mod_eq_of_lt ha]
    exact ⟨by omega, rfl⟩
  · rintro ⟨rfl, rfl⟩
    exact (Nat.div_add_mod' k h).symm
theorem renN3 (nm : Nat) (w h : Int) (n : Nat) : Ren (fun _ => 0) [nm] (.g [I w, I h, .sl 0 0 n]) (.g [I w, I h, .sl nm 0 n]) := .g rfl fun k a b ha hb => by
    match k with
    | 0 => simp at ha hb; subst ha; subst hb; exact .cl (.v _)
    | 1 => simp at ha hb; subst ha; subst hb; exact .cl (.v _)
    | 2 => simp at ha hb; subst ha; subst hb; exact .sl (σ := fun _ => 0) (List.mem_singleton.2 rfl)
    | k + 3 => simp at ha
end

section
set_option maxRecDepth 20000
attribute [local go_sem] clPxT
theorem rangeGet {p : List Int} {N : Nat} (h : p.length = N) : (List.range N).map (fun k => p.getD k 0) = p := by
  refine List.ext_getElem? fun k => ?_
  rw [List.getElem?_map]
  by_cases hk : k < N
  · rw [List.getElem?_range hk, getD_some (by omega)]; rfl
  · rw [List.getElem?_eq_none (by simp; omega), List.getElem?_eq_none (by omega)]; rfl
theorem at_idx {w i j : Nat} (hi : i < w) : (j * w + i) % w = i ∧ (j * w + i) / w = j := by
  obtain ⟨e1, e2⟩ := (divmod_eq (k := j * w + i) (b := j) hi).1 rfl
  exact ⟨e2, e1⟩
end

section
set_option maxRecDepth 20000
attribute [local go_sem] clPxT
def atP (r : Ra) (i j : Int) : Int × Int := if vaB r then (if hasB r i j then (wr (px r.p r.w.toNat i.toNat j.toNat), 0) else (0, 17)) else (0, 2)
theorem at36 (r : Ra) (i j : Int) : PFun Tryd.prog 36 [RaA r, I i, I j] (.t [I (atP r i j).1, I (atP r i j).2]) := by
  have hv := valid62 r
  have hh := has71 r i j
  unfold atP
  by_cases hc : vaB r = true
  · obtain ⟨w, h, p, rfl, w1, w2, h1, h2, hlen⟩ := vaR_of hc
    by_cases hb : hasB ⟨w, h, p⟩ i j = true
    · obtain ⟨a, b, rfl, rfl, ha2, hb2⟩ := has_of hb
      have hp1 := prodN w2 h2
      have hil2 := idx_lt (i := a) (j := b) (w := w) (h := h) ha2 hb2
      have g1 := getD_some (p := p) (k := b * w + a) (by rw [hlen]; exact hil2)
      have l1 : ((b * w + a : Nat) : Int) < (p.length : Int) := by rw [hlen]; omega
      have e1 := wrM (a := b) (b := w) (by omega)
      have e2 := wrA (a := b * w) (b := a) (by omega)
      rw [if_pos hc, if_pos hb]
      refine PFun.intro 400 mixed Tryd.func36 (by kernel_rfl) rfl (by first | exact .v _ | (simp [Cl_v, Cl_t, Cl_g, Cl_fn, Cl_rp, Cl_ro]; done) | (simp [Cl_v, Cl_t, Cl_g, Cl_fn, Cl_rp, Cl_ro, or_imp, forall_and]; done) | (split <;> simp [Cl_v, Cl_t, Cl_g, Cl_fn, Cl_rp, Cl_ro])) (Nat.le_of_ble_eq_true rfl) ?_; rw [Tryd.ntmps36, Tryd.results36]
      simp -dsimp -implicitDefEqProofs (maxSteps := 1000000) only [go_sem, ↓reduceIte, Nat.reduceAdd, Nat.reduceSub, Nat.reduceMul, Nat.reduceLT, Nat.reduceLeDiff, Nat.reduceEqDiff, Nat.reduceBEq, Nat.reduceBNe, Int.reduceToNat, Int.reduceLT, Int.reduceLE, Int.reduceNeg, reduceCtorEq, Int.reduceEq, Int.reduceNe]
      refine AtFn.pure0 hv ?_
      simp -dsimp -implicitDefEqProofs (maxSteps := 1000000) only [go_sem, ↓reduceIte, Nat.reduceAdd, Nat.reduceSub, Nat.reduceMul, Nat.reduceLT, Nat.reduceLeDiff, Nat.reduceEqDiff, Nat.reduceBEq, Nat.reduceBNe, Int.reduceToNat, Int.reduceLT, Int.reduceLE, Int.reduceNeg, reduceCtorEq, Int.reduceEq, Int.reduceNe, hc]
      refine AtFn.pure0 hh ?_
      simp -dsimp -implicitDefEqProofs (maxSteps := 1000000) only [go_sem, ↓reduceIte, Nat.reduceAdd, Nat.reduceSub, Nat.reduceMul, Nat.reduceLT, Nat.reduceLeDiff, Nat.reduceEqDiff, Nat.reduceBEq, Nat.reduceBNe, Int.reduceToNat, Int.reduceLT, Int.reduceLE, Int.reduceNeg, reduceCtorEq, Int.reduceEq, Int.reduceNe, hb, e1, e2, g1, pxC_len, pxC_get, Int.natCast_nonneg, Int.toNat_natCast, Nat.zero_add]
      rfl
    · have hb' : hasB ⟨w, h, p⟩ i j = false := by simpa using hb
      rw [if_pos hc, if_neg hb]
      refine PFun.intro 400 mixed Tryd.func36 (by kernel_rfl) rfl (by first | exact .v _ | (simp [Cl_v, Cl_t, Cl_g, Cl_fn, Cl_rp, Cl_ro]; done) | (simp [Cl_v, Cl_t, Cl_g, Cl_fn, Cl_rp, Cl_ro, or_imp, forall_and]; done) | (split <;> simp [Cl_v, Cl_t, Cl_g, Cl_fn, Cl_rp, Cl_ro])) (Nat.le_of_ble_eq_true rfl) ?_; rw [Tryd.ntmps36, Tryd.results36]
      simp -dsimp -implicitDefEqProofs (maxSteps := 1000000) only [go_sem, ↓reduceIte, Nat.reduceAdd, Nat.reduceSub, Nat.reduceMul, Nat.reduceLT, Nat.reduceLeDiff, Nat.reduceEqDiff, Nat.reduceBEq, Nat.reduceBNe, Int.reduceToNat, Int.reduceLT, Int.reduceLE, Int.reduceNeg, reduceCtorEq, Int.reduceEq, Int.reduceNe]
      refine AtFn.pure0 hv ?_
      simp -dsimp -implicitDefEqProofs (maxSteps := 1000000) only [go_sem, ↓reduceIte, Nat.reduceAdd, Nat.reduceSub, Nat.reduceMul, Nat.reduceLT, Nat.reduceLeDiff, Nat.reduceEqDiff, Nat.reduceBEq, Nat.reduceBNe, Int.reduceToNat, Int.reduceLT, Int.reduceLE, Int.reduceNeg, reduceCtorEq, Int.reduceEq, Int.reduceNe, hc]
      refine AtFn.pure0 hh ?_
      simp -dsimp -implicitDefEqProofs (maxSteps := 1000000) only [go_sem, ↓reduceIte, Nat.reduceAdd, Nat.reduceSub, Nat.reduceMul, Nat.reduceLT, Nat.reduceLeDiff, Nat.reduceEqDiff, Nat.reduceBEq, Nat.reduceBNe, Int.reduceToNat, Int.reduceLT, Int.reduceLE, Int.reduceNeg, reduceCtorEq, Int.reduceEq, Int.reduceNe, hb']
  · have hc' : vaB r = false := by simpa using hc
    rw [if_neg hc]
    obtain ⟨w, h, p⟩ := r
    refine PFun.intro 400 mixed Tryd.func36 (by kernel_rfl) rfl (by first | exact .v _ | (simp [Cl_v, Cl_t, Cl_g, Cl_fn, Cl_rp, Cl_ro]; done) | (simp [Cl_v, Cl_t, Cl_g, Cl_fn, Cl_rp, Cl_ro, or_imp, forall_and]; done) | (split <;> simp [Cl_v, Cl_t, Cl_g, Cl_fn, Cl_rp, Cl_ro])) (Nat.le_of_ble_eq_true rfl) ?_; rw [Tryd.ntmps36, Tryd.results36]
    simp -dsimp -implicitDefEqProofs (maxSteps := 1000000) only [go_sem, ↓reduceIte, Nat.reduceAdd, Nat.reduceSub, Nat.reduceMul, Nat.reduceLT, Nat.reduceLeDiff, Nat.reduceEqDiff, Nat.reduceBEq, Nat.reduceBNe, Int.reduceToNat, Int.reduceLT, Int.reduceLE, Int.reduceNeg, reduceCtorEq, Int.reduceEq, Int.reduceNe]
    refine AtFn.pure0 hv ?_
    simp -dsimp -implicitDefEqProofs (maxSteps := 1000000) only [go_sem, ↓reduceIte, Nat.reduceAdd, Nat.reduceSub, Nat.reduceMul, Nat.reduceLT, Nat.reduceLeDiff, Nat.reduceEqDiff, Nat.reduceBEq, Nat.reduceBNe, Int.reduceToNat, Int.reduceLT, Int.reduceLE, Int.reduceNeg, reduceCtorEq, Int.reduceEq, Int.reduceNe, hc']
def setP (r : Ra) (i j n : Int) : Ra × Int := if vaB r && inkB n then (if hasB r i j then (⟨r.w, r.h, r.p.set (j.toNat * r.w.toNat + i.toNat) n⟩, 0) else (raZ, 17)) else (raZ, 2)
theorem pxC_set (p : List Int) (k : Nat) (n : Int) : (pxC p).set k [U n] = pxC (p.set k n) := by unfold pxC; rw [List.map_set]
theorem set38 (r : Ra) (i j n : Int) : PFun Tryd.prog 38 [RaA r, I i, I j, I n] (RE (setP r i j n)) := by
  have hv := valid62 r
  have hh := has71 r i j
  have hi := ink67 n
  unfold setP
  by_cases hc : (vaB r && inkB n) = true
  · refine pT hc ?_
    simp only [Bool.and_eq_true] at hc
    obtain ⟨hc, hn⟩ := hc
    obtain ⟨w, h, p, rfl, w1, w2, h1, h2, hlen⟩ := vaR_of hc
    have hp1 := prodN w2 h2
    by_cases hb : hasB ⟨w, h, p⟩ i j = true
    · refine pT hb ?_
      obtain ⟨a, b, rfl, rfl, ha2, hb2⟩ := has_of hb
      have hil2 := idx_lt (i := a) (j := b) (w := w) (h := h) ha2 hb2
      have g1 := getD_some (p := p) (k := b * w + a) (by rw [hlen]; exact hil2)
      have l1 : ((b * w + a : Nat) : Int) < (p.length : Int) := by rw [hlen]; omega
      have e1 := wrM (a := b) (b := w) (by omega)
      have e2 := wrA (a := b * w) (b := a) (by omega)
      have hm := clone72 (w : Int) (h : Int) p (by omega)
      refine PFun.intro 400 mixed Tryd.func38 (by kernel_rfl) rfl (clRE _) (Nat.le_of_ble_eq_true rfl) ?_; rw [Tryd.ntmps38, Tryd.results38]
      simp -dsimp -implicitDefEqProofs (maxSteps := 1000000) only [go_sem, ↓reduceIte, Nat.reduceAdd, Nat.reduceSub, Nat.reduceMul, Nat.reduceLT, Nat.reduceLeDiff, Nat.reduceEqDiff, Nat.reduceBEq, Nat.reduceBNe, Int.reduceToNat, Int.reduceLT, Int.reduceLE, Int.reduceNeg, reduceCtorEq, Int.reduceEq, Int.reduceNe]
      refine AtFn.pure0 hv ?_
      simp -dsimp -implicitDefEqProofs (maxSteps := 1000000) only [go_sem, ↓reduceIte, Nat.reduceAdd, Nat.reduceSub, Nat.reduceMul, Nat.reduceLT, Nat.reduceLeDiff, Nat.reduceEqDiff, Nat.reduceBEq, Nat.reduceBNe, Int.reduceToNat, Int.reduceLT, Int.reduceLE, Int.reduceNeg, reduceCtorEq, Int.reduceEq, Int.reduceNe, hc]
      refine AtFn.pure0 hi ?_
      simp -dsimp -implicitDefEqProofs (maxSteps := 1000000) only [go_sem, ↓reduceIte, Nat.reduceAdd, Nat.reduceSub, Nat.reduceMul, Nat.reduceLT, Nat.reduceLeDiff, Nat.reduceEqDiff, Nat.reduceBEq, Nat.reduceBNe, Int.reduceToNat, Int.reduceLT, Int.reduceLE, Int.reduceNeg, reduceCtorEq, Int.reduceEq, Int.reduceNe, hn]
      refine AtFn.pure0 hh ?_
      simp -dsimp -implicitDefEqProofs (maxSteps := 1000000) only [go_sem, ↓reduceIte, Nat.reduceAdd, Nat.reduceSub, Nat.reduceMul, Nat.reduceLT, Nat.reduceLeDiff, Nat.reduceEqDiff, Nat.reduceBEq, Nat.reduceBNe, Int.reduceToNat, Int.reduceLT, Int.reduceLE, Int.reduceNeg, reduceCtorEq, Int.reduceEq, Int.reduceNe, hb]
      refine AtFn.newR (.g [I (w : Int), I (h : Int), .sl 2 0 p.length]) hm (renN3 2 _ _ _) ?_
      simp -dsimp -implicitDefEqProofs (maxSteps := 1000000) only [go_sem, ↓reduceIte, Nat.reduceAdd, Nat.reduceSub, Nat.reduceMul, Nat.reduceLT, Nat.reduceLeDiff, Nat.reduceEqDiff, Nat.reduceBEq, Nat.reduceBNe, Int.reduceToNat, Int.reduceLT, Int.reduceLE, Int.reduceNeg, reduceCtorEq, Int.reduceEq, Int.reduceNe, e1, e2, g1, pxC_len, pxC_get, Int.natCast_nonneg, Int.toNat_natCast, Nat.zero_add, u8_ink hn, pxC_set, List.length_set]
      rw [if_pos (Nat.le_refl _), takePx _ _ (List.length_set ..)]
      exact ⟨l1, rfl⟩
    · have hb' : hasB ⟨w, h, p⟩ i j = false := by simpa using hb
      refine pE hb' ?_
      refine PFun.intro 400 mixed Tryd.func38 (by kernel_rfl) rfl (by first | exact .v _ | (simp [Cl_v, Cl_t, Cl_g, Cl_fn, Cl_rp, Cl_ro]; done) | (simp [Cl_v, Cl_t, Cl_g, Cl_fn, Cl_rp, Cl_ro, or_imp, forall_and]; done) | (split <;> simp [Cl_v, Cl_t, Cl_g, Cl_fn, Cl_rp, Cl_ro])) (Nat.le_of_ble_eq_true rfl) ?_; rw [Tryd.ntmps38, Tryd.results38]
      simp -dsimp -implicitDefEqProofs (maxSteps := 1000000) only [go_sem, ↓reduceIte, Nat.reduceAdd, Nat.reduceSub, Nat.reduceMul, Nat.reduceLT, Nat.reduceLeDiff, Nat.reduceEqDiff, Nat.reduceBEq, Nat.reduceBNe, Int.reduceToNat, Int.reduceLT, Int.reduceLE, Int.reduceNeg, reduceCtorEq, Int.reduceEq, Int.reduceNe]
      refine AtFn.pure0 hv ?_
      simp -dsimp -implicitDefEqProofs (maxSteps := 1000000) only [go_sem, ↓reduceIte, Nat.reduceAdd, Nat.reduceSub, Nat.reduceMul, Nat.reduceLT, Nat.reduceLeDiff, Nat.reduceEqDiff, Nat.reduceBEq, Nat.reduceBNe, Int.reduceToNat, Int.reduceLT, Int.reduceLE, Int.reduceNeg, reduceCtorEq, Int.reduceEq, Int.reduceNe, hc]
      refine AtFn.pure0 hi ?_
      simp -dsimp -implicitDefEqProofs (maxSteps := 1000000) only [go_sem, ↓reduceIte, Nat.reduceAdd, Nat.reduceSub, Nat.reduceMul, Nat.reduceLT, Nat.reduceLeDiff, Nat.reduceEqDiff, Nat.reduceBEq, Nat.reduceBNe, Int.reduceToNat, Int.reduceLT, Int.reduceLE, Int.reduceNeg, reduceCtorEq, Int.reduceEq, Int.reduceNe, hn]
      refine AtFn.pure0 hh ?_
      simp -dsimp -implicitDefEqProofs (maxSteps := 1000000) only [go_sem, ↓reduceIte, Nat.reduceAdd, Nat.reduceSub, Nat.reduceMul, Nat.reduceLT, Nat.reduceLeDiff, Nat.reduceEqDiff, Nat.reduceBEq, Nat.reduceBNe, Int.reduceToNat, Int.reduceLT, Int.reduceLE, Int.reduceNeg, reduceCtorEq, Int.reduceEq, Int.reduceNe, hb']
      exact AtFn.pure0 (none53 17) (by simp -dsimp -implicitDefEqProofs (maxSteps := 1000000) only [go_sem, ↓reduceIte, Nat.reduceAdd, Nat.reduceSub, Nat.reduceMul, Nat.reduceLT, Nat.reduceLeDiff, Nat.reduceEqDiff, Nat.reduceBEq, Nat.reduceBNe, Int.reduceToNat, Int.reduceLT, Int.reduceLE, Int.reduceNeg, reduceCtorEq, Int.reduceEq, Int.reduceNe])
  · have hc : (vaB r && inkB n) = false := by simpa using hc
    refine pE hc ?_
    obtain ⟨w, h, p⟩ := r
    refine PFun.intro 400 mixed Tryd.func38 (by kernel_rfl) rfl (by first | exact .v _ | (simp [Cl_v, Cl_t, Cl_g, Cl_fn, Cl_rp, Cl_ro]; done) | (simp [Cl_v, Cl_t, Cl_g, Cl_fn, Cl_rp, Cl_ro, or_imp, forall_and]; done) | (split <;> simp [Cl_v, Cl_t, Cl_g, Cl_fn, Cl_rp, Cl_ro])) (Nat.le_of_ble_eq_true rfl) ?_; rw [Tryd.ntmps38, Tryd.results38]
    simp -dsimp -implicitDefEqProofs (maxSteps := 1000000) only [go_sem, ↓reduceIte, Nat.reduceAdd, Nat.reduceSub, Nat.reduceMul, Nat.reduceLT, Nat.reduceLeDiff, Nat.reduceEqDiff, Nat.reduceBEq, Nat.reduceBNe, Int.reduceToNat, Int.reduceLT, Int.reduceLE, Int.reduceNeg, reduceCtorEq, Int.reduceEq, Int.reduceNe]
    refine AtFn.pure0 hv ?_
    simp -dsimp -implicitDefEqProofs (maxSteps := 1000000) only [go_sem, ↓reduceIte, Nat.reduceAdd, Nat.reduceSub, Nat.reduceMul, Nat.reduceLT, Nat.reduceLeDiff, Nat.reduceEqDiff, Nat.reduceBEq, Nat.reduceBNe, Int.reduceToNat, Int.reduceLT, Int.reduceLE, Int.reduceNeg, reduceCtorEq, Int.reduceEq, Int.reduceNe]
    repeat' (first | (apply And.intro <;> (try intro _) <;> try simp -dsimp -implicitDefEqProofs (maxSteps := 1000000) only [go_sem, ↓reduceIte, Nat.reduceAdd, Nat.reduceSub, Nat.reduceMul, Nat.reduceLT, Nat.reduceLeDiff, Nat.reduceEqDiff, Nat.reduceBEq, Nat.reduceBNe, Int.reduceToNat, Int.reduceLT, Int.reduceLE, Int.reduceNeg, reduceCtorEq, Int.reduceEq, Int.reduceNe]) | (refine AtFn.pure0 hi ?_; try simp -dsimp -implicitDefEqProofs (maxSteps := 1000000) only [go_sem, ↓reduceIte, Nat.reduceAdd, Nat.reduceSub, Nat.reduceMul, Nat.reduceLT, Nat.reduceLeDiff, Nat.reduceEqDiff, Nat.reduceBEq, Nat.reduceBNe, Int.reduceToNat, Int.reduceLT, Int.reduceLE, Int.reduceNeg, reduceCtorEq, Int.reduceEq, Int.reduceNe]) | (refine AtFn.pure0 (none53 2) ?_; try simp -dsimp -implicitDefEqProofs (maxSteps := 1000000) only [go_sem, ↓reduceIte, Nat.reduceAdd, Nat.reduceSub, Nat.reduceMul, Nat.reduceLT, Nat.reduceLeDiff, Nat.reduceEqDiff, Nat.reduceBEq, Nat.reduceBNe, Int.reduceToNat, Int.reduceLT, Int.reduceLE, Int.reduceNeg, reduceCtorEq, Int.reduceEq, Int.reduceNe]))
    all_goals (exfalso; simp_all)
end

section
set_option maxRecDepth 20000
theorem slE_ro3 (P : Program) (H : Nat → Option Blk) (t : TypeId) (e : Nat) (c : List (List AV)) (lo : Option AV) (a b : AV) (K : AV → Prop) : slE P H t (.ro e c) lo (some a) (some b) K =
    optK (asI a) fun p => optK (asI b) fun q => p.2 = q.2 ∧ slE P H t (.ro e c) lo (some a) none K := Go.Eng.slE_ro3 P H t e c lo a b K
attribute [local go_sem] clPxT slE_ro3
def chunkL {α : Type} (n : Nat) (l : List α) : List (List α) := (List.range ((l.length + n - 1) / n)).map fun i => (l.drop (i * n)).take n
theorem chunk_lt {n q L : Nat} (hn : 1 ≤ n) : q * n < L ↔ q < (L + n - 1) / n := by
  rw [Nat.lt_iff_add_one_le, Nat.lt_iff_add_one_le, Nat.le_div_iff_mul_le (by omega), Nat.succ_mul]
  omega
abbrev Yv (l : Nat) : AV := .v (.func (.yield l) #[] #[])
theorem chunk56 (l : List Int) (n : Nat) (hn : 1 ≤ n) : PFun Tryd.prog 56 [.ro 1 (pxC l), I (n : Int)] (.fn 86 [.rp [.ro 1 (pxC l)] 0, .rp [I (n : Int)] 0]) := by
  have hn' : ¬ (n : Int) < 1 := by omega
  refine PFun.intro 400 mixed Tryd.func56 (by kernel_rfl) rfl (by simp [Cl_fn, Cl_rp, Cl_ro, Cl_v, clPxT]) (Nat.le_of_ble_eq_true rfl) ?_; rw [Tryd.ntmps56, Tryd.results56]
  simp -dsimp -implicitDefEqProofs (maxSteps := 1000000) only [go_sem, ↓reduceIte, Nat.reduceAdd, Nat.reduceSub, Nat.reduceMul, Nat.reduceLT, Nat.reduceLeDiff, Nat.reduceEqDiff, Nat.reduceBEq, Nat.reduceBNe, Int.reduceToNat, Int.reduceLT, Int.reduceLE, Int.reduceNeg, reduceCtorEq, Int.reduceEq, Int.reduceNe, hn']
theorem chunk86 (l : List Int) (n : Nat) (hn : 1 ≤ n) (hn2 : n ≤ 65536) (hl : l.length ≤ 4294967296) : ISeq Tryd.prog 86 [.rp [.ro 1 (pxC l)] 0, .rp [I (n : Int)] 0] ((chunkL n l).map fun c => [.ro 1 (pxC c)]) := by
  obtain ⟨m, hm⟩ : ∃ m, m = (l.length + n - 1) / n := ⟨_, rfl⟩
  obtain ⟨xs, hxs⟩ : ∃ xs : List (List AV), xs = (chunkL n l).map fun c => [.ro 1 (pxC c)] := ⟨_, rfl⟩
  have hget : ∀ q, q < m → xs[q]? = some [.ro 1 (pxC ((l.drop (q * n)).take n))] := fun q hq => by
    rw [hxs, List.getElem?_map]
    unfold chunkL
    rw [List.getElem?_map, List.getElem?_range (by omega)]
    rfl
  have hxl : xs.length = m := by rw [hxs, hm]; simp [chunkL]
  rw [← hxs]
  refine ISeq.intro 400 mixed Tryd.func86 (by kernel_rfl) rfl (by kernel_rfl) (Nat.le_of_ble_eq_true rfl) fun y => ?_
  rw [Tryd.ntmps86]
  simp -dsimp -implicitDefEqProofs (maxSteps := 1000000) only [go_sem, ↓reduceIte, Nat.reduceAdd, Nat.reduceSub, Nat.reduceMul, Nat.reduceLT, Nat.reduceLeDiff, Nat.reduceEqDiff, Nat.reduceBEq, Nat.reduceBNe, Int.reduceToNat, Int.reduceLT, Int.reduceLE, Int.reduceNeg, reduceCtorEq, Int.reduceEq, Int.reduceNe]
  refine ⟨{q : Nat // q ≤ m}, fun q => ⟨31, tl [(0, Yv y), (1, .rp [.ro 1 (pxC l)] 0), (2, .rp [I (n : Int)] 0), (4, I ((q.1 * n : Nat) : Int))], [], 0, ⟨[], some (.it y (xs.drop q.1))⟩⟩, fun q => m - q.1,
    ⟨⟨0, by omega⟩, Le.tl (sv := []) (Ls := []) (h' := []) (k' := 0) (y := some (.it y xs)) [] ?_ (by simp) (by simp) (by simp) trivial⟩, fun q => ?_⟩
  · simp -dsimp -implicitDefEqProofs (maxSteps := 1000000) only [go_sem, ↓reduceIte, Nat.reduceAdd, Nat.reduceSub, Nat.reduceMul, Nat.reduceLT, Nat.reduceLeDiff, Nat.reduceEqDiff, Nat.reduceBEq, Nat.reduceBNe, Int.reduceToNat, Int.reduceLT, Int.reduceLE, Int.reduceNeg, reduceCtorEq, Int.reduceEq, Int.reduceNe, Nat.zero_mul]
  · obtain ⟨q, hq⟩ := q
    simp -dsimp -implicitDefEqProofs (maxSteps := 1000000) only [go_sem, ↓reduceIte, Nat.reduceAdd, Nat.reduceSub, Nat.reduceMul, Nat.reduceLT, Nat.reduceLeDiff, Nat.reduceEqDiff, Nat.reduceBEq, Nat.reduceBNe, Int.reduceToNat, Int.reduceLT, Int.reduceLE, Int.reduceNeg, reduceCtorEq, Int.reduceEq, Int.reduceNe, pxC_len]
    refine ⟨fun h => ?_, fun h => ?_⟩
    · have hlt : q * n < l.length := by omega
      have hqm : q < m := by rw [hm]; exact (chunk_lt hn).1 hlt
      refine AtCode.draw 7 [([], []), ([], []), ([], []), ([1, 2], []), ([1, 2, 3], []), ([0, 1, 2, 3, 4], []), ([0, 1, 2, 3, 4, 5], [])] (by kernel_rfl) ?_
      obtain ⟨d, hd⟩ : ∃ d, d = min n (l.length - q * n) := ⟨_, rfl⟩
      have e1 : List.take l.length (pxC l) = pxC l := List.take_of_length_le (by rw [pxC_len]; exact Nat.le_refl _)
      have e2 : (List.drop (q * n) (pxC l)).length = l.length - q * n := by rw [List.length_drop, pxC_len]
      have e3 : min (n : Int) ((l.length - q * n : Nat) : Int) = (d : Int) := by omega
      have e4 := wrA (a := q * n) (b := d) (by omega)
      have e5 : List.drop (q * n) (List.take (q * n + d) (pxC l)) = pxC ((l.drop (q * n)).take n) := by
        unfold pxC
        rw [← List.map_take, ← List.map_drop, List.drop_take, show q * n + d - q * n = d by omega, hd, ← List.length_drop, List.take_eq_take_min (l := l.drop (q * n)) (i := n)]
      have c1 : q * n ≤ l.length := by omega
      have c2 : q * n ≤ q * n + d := by omega
      have c3 : q * n + d ≤ l.length := by omega
      have hw := wrA (a := q * n) (b := n) (by omega)
      have hdr : xs.drop q = [AV.ro 1 (pxC ((l.drop (q * n)).take n))] :: xs.drop (q + 1) := by
        have hlt : q < xs.length := by omega
        rw [List.drop_eq_getElem_cons hlt]
        have := List.getElem?_eq_getElem hlt
        rw [hget q hqm] at this
        rw [← Option.some.inj this]
      simp -dsimp -implicitDefEqProofs (maxSteps := 1000000) only [go_sem, ↓reduceIte, Nat.reduceAdd, Nat.reduceSub, Nat.reduceMul, Nat.reduceLT, Nat.reduceLeDiff, Nat.reduceEqDiff, Nat.reduceBEq, Nat.reduceBNe, Int.reduceToNat, Int.reduceLT, Int.reduceLE, Int.reduceNeg, reduceCtorEq, Int.reduceEq, Int.reduceNe, pxC_len, Int.toNat_natCast, e1, e2, e3, e4, e5, c1, c2, c3, Int.natCast_nonneg, Nat.le_refl]
      refine AtYl.use' (as' := [.ro 1 (pxC ((l.drop (q * n)).take n))]) (rest := xs.drop (q + 1)) (by simp -dsimp -implicitDefEqProofs (maxSteps := 1000000) only [go_sem, ↓reduceIte, Nat.reduceAdd, Nat.reduceSub, Nat.reduceMul, Nat.reduceLT, Nat.reduceLeDiff, Nat.reduceEqDiff, Nat.reduceBEq, Nat.reduceBNe, Int.reduceToNat, Int.reduceLT, Int.reduceLE, Int.reduceNeg, reduceCtorEq, Int.reduceEq, Int.reduceNe]) rfl (by show some (Yl.it y (xs.drop q)) = _; rw [hdr]) (by simp -dsimp -implicitDefEqProofs (maxSteps := 1000000) only [go_sem, ↓reduceIte, Nat.reduceAdd, Nat.reduceSub, Nat.reduceMul, Nat.reduceLT, Nat.reduceLeDiff, Nat.reduceEqDiff, Nat.reduceBEq, Nat.reduceBNe, Int.reduceToNat, Int.reduceLT, Int.reduceLE, Int.reduceNeg, reduceCtorEq, Int.reduceEq, Int.reduceNe]) fun z => ?_
      cases z
      · simp -dsimp -implicitDefEqProofs (maxSteps := 1000000) only [go_sem, ↓reduceIte, Nat.reduceAdd, Nat.reduceSub, Nat.reduceMul, Nat.reduceLT, Nat.reduceLeDiff, Nat.reduceEqDiff, Nat.reduceBEq, Nat.reduceBNe, Int.reduceToNat, Int.reduceLT, Int.reduceLE, Int.reduceNeg, reduceCtorEq, Int.reduceEq, Int.reduceNe]
        try simp
      · simp -dsimp -implicitDefEqProofs (maxSteps := 1000000) only [go_sem, ↓reduceIte, Nat.reduceAdd, Nat.reduceSub, Nat.reduceMul, Nat.reduceLT, Nat.reduceLeDiff, Nat.reduceEqDiff, Nat.reduceBEq, Nat.reduceBNe, Int.reduceToNat, Int.reduceLT, Int.reduceLE, Int.reduceNeg, reduceCtorEq, Int.reduceEq, Int.reduceNe]
        refine ⟨⟨q + 1, by omega⟩, by show m - (q + 1) < m - q; omega, Le.tl (sv := []) (Ls := []) (h' := []) (k' := 0) (y := some (.it y (xs.drop (q + 1)))) [] ?_ (by simp) (by simp) (by simp) trivial⟩
        simp -dsimp -implicitDefEqProofs (maxSteps := 1000000) only [go_sem, ↓reduceIte, Nat.reduceAdd, Nat.reduceSub, Nat.reduceMul, Nat.reduceLT, Nat.reduceLeDiff, Nat.reduceEqDiff, Nat.reduceBEq, Nat.reduceBNe, Int.reduceToNat, Int.reduceLT, Int.reduceLE, Int.reduceNeg, reduceCtorEq, Int.reduceEq, Int.reduceNe, hw, Nat.succ_mul]
    · have : q = m := by
        rcases Nat.lt_or_ge q m with h1 | h1
        · rw [hm] at h1
          have := (chunk_lt hn).2 h1
          omega
        · omega
      subst this
      exact ⟨y, by rw [List.drop_eq_nil_of_le (by omega)]⟩
abbrev rowC (r : List Int) : List AV := [.ro 1 (pxC r)]
theorem clRows (l : List (List Int)) : ∀ c ∈ l.map rowC, ∀ s ∈ c, Cl s := fun c hc s hs => by
  obtain ⟨r, _, rfl⟩ := List.mem_map.1 hc
  rw [List.mem_singleton.1 hs]; exact .ro (clPx r)
theorem append103 (g : Nat) (caps : List AV) (hc : ∀ x ∈ caps, Cl x) (l : List (List Int)) (hl : l.length < 2 ^ 36) (hfz : ∀ H, caps.map (frzA H 2) = caps) (hnm : ∀ H, caps.flatMap (namesA H 2) = []) (h : ISeq Tryd.prog g caps (l.map rowC)) : RFun Tryd.prog 103 [.v (.slice none 0 0), .fn g caps] 1 (l.map rowC) (.sl 0 0 l.length) := by
  refine RFun.intro 400 1 mixed Tryd.func103 (by kernel_rfl) rfl (clRows _) (Nat.le_of_ble_eq_true rfl) ?_; rw [Tryd.ntmps103, Tryd.results103]
  simp -dsimp -implicitDefEqProofs (maxSteps := 1000000) only [go_sem, ↓reduceIte, Nat.reduceAdd, Nat.reduceSub, Nat.reduceMul, Nat.reduceLT, Nat.reduceLeDiff, Nat.reduceEqDiff, Nat.reduceBEq, Nat.reduceBNe, Int.reduceToNat, Int.reduceLT, Int.reduceLE, Int.reduceNeg, reduceCtorEq, Int.reduceEq, Int.reduceNe]
  refine AtCode.rangeF g caps (l.map rowC) [] (fun i => [(2, .ptr 0 0 0)]) (fun _ => []) (fun i => [(0, ⟨1, [[.sl 1 0 i]]⟩), (1, ⟨1, (l.take i).map rowC⟩)]) (fun _ => 2) [] ?_ ?_ hc h ?_ rfl ?_ ?_ (by simp) (by simp [sg]) trivial ?_ ?_
  · simp -dsimp -implicitDefEqProofs (maxSteps := 1000000) only [go_sem, ↓reduceIte, Nat.reduceAdd, Nat.reduceSub, Nat.reduceMul, Nat.reduceLT, Nat.reduceLeDiff, Nat.reduceEqDiff, Nat.reduceBEq, Nat.reduceBNe, Int.reduceToNat, Int.reduceLT, Int.reduceLE, Int.reduceNeg, reduceCtorEq, Int.reduceEq, Int.reduceNe, hfz]
  · simp -dsimp -implicitDefEqProofs (maxSteps := 1000000) only [go_sem, ↓reduceIte, Nat.reduceAdd, Nat.reduceSub, Nat.reduceMul, Nat.reduceLT, Nat.reduceLeDiff, Nat.reduceEqDiff, Nat.reduceBEq, Nat.reduceBNe, Int.reduceToNat, Int.reduceLT, Int.reduceLE, Int.reduceNeg, reduceCtorEq, Int.reduceEq, Int.reduceNe, hnm]
  · intro bs hbs
    obtain ⟨p, _, rfl⟩ := List.mem_map.1 hbs
    rfl
  · simp -dsimp -implicitDefEqProofs (maxSteps := 1000000) only [go_sem, ↓reduceIte, Nat.reduceAdd, Nat.reduceSub, Nat.reduceMul, Nat.reduceLT, Nat.reduceLeDiff, Nat.reduceEqDiff, Nat.reduceBEq, Nat.reduceBNe, Int.reduceToNat, Int.reduceLT, Int.reduceLE, Int.reduceNeg, reduceCtorEq, Int.reduceEq, Int.reduceNe]
  · simp -dsimp -implicitDefEqProofs (maxSteps := 1000000) only [go_sem, ↓reduceIte, Nat.reduceAdd, Nat.reduceSub, Nat.reduceMul, Nat.reduceLT, Nat.reduceLeDiff, Nat.reduceEqDiff, Nat.reduceBEq, Nat.reduceBNe, Int.reduceToNat, Int.reduceLT, Int.reduceLE, Int.reduceNeg, reduceCtorEq, Int.reduceEq, Int.reduceNe]
    exact renL_one .nil
  · intro i bs hbs
    obtain ⟨p, hp, rfl⟩ : ∃ p, l[i]? = some p ∧ rowC p = bs := by simpa using hbs
    have hi := lt_get hp
    simp -dsimp -implicitDefEqProofs (maxSteps := 1000000) only [go_sem, ↓reduceIte, Nat.reduceAdd, Nat.reduceSub, Nat.reduceMul, Nat.reduceLT, Nat.reduceLeDiff, Nat.reduceEqDiff, Nat.reduceBEq, Nat.reduceBNe, Int.reduceToNat, Int.reduceLT, Int.reduceLE, Int.reduceNeg, reduceCtorEq, Int.reduceEq, Int.reduceNe]
    rw [takeA_self (by simp; omega), show (List.map rowC (List.take i l)) ++ [[AV.ro 1 (pxC p)]] = List.map rowC (List.take (i + 1) l) from snoc_map hp rowC]
    have hi2 : 2 ^ 36 = 68719476736 := rfl
    refine ⟨by simp; omega, by simp; omega, Le.hid (Ls := []) [(1, 3)] ?_ ?_ (by simp) (by simp [sg]) trivial⟩
    · simp -dsimp -implicitDefEqProofs (maxSteps := 1000000) only [go_sem, ↓reduceIte, Nat.reduceAdd, Nat.reduceSub, Nat.reduceMul, Nat.reduceLT, Nat.reduceLeDiff, Nat.reduceEqDiff, Nat.reduceBEq, Nat.reduceBNe, Int.reduceToNat, Int.reduceLT, Int.reduceLE, Int.reduceNeg, reduceCtorEq, Int.reduceEq, Int.reduceNe]
    · simp -dsimp -implicitDefEqProofs (maxSteps := 1000000) only [go_sem, ↓reduceIte, Nat.reduceAdd, Nat.reduceSub, Nat.reduceMul, Nat.reduceLT, Nat.reduceLeDiff, Nat.reduceEqDiff, Nat.reduceBEq, Nat.reduceBNe, Int.reduceToNat, Int.reduceLT, Int.reduceLE, Int.reduceNeg, reduceCtorEq, Int.reduceEq, Int.reduceNe]
      refine ⟨renL_one ?_, renL_cl rfl (clRows _)⟩
      simp -dsimp -implicitDefEqProofs (maxSteps := 1000000) only [go_sem, ↓reduceIte, Nat.reduceAdd, Nat.reduceSub, Nat.reduceMul, Nat.reduceLT, Nat.reduceLeDiff, Nat.reduceEqDiff, Nat.reduceBEq, Nat.reduceBNe, Int.reduceToNat, Int.reduceLT, Int.reduceLE, Int.reduceNeg, reduceCtorEq, Int.reduceEq, Int.reduceNe, List.length_map, List.length_take]
      omega
  · simp -dsimp -implicitDefEqProofs (maxSteps := 1000000) only [go_sem, ↓reduceIte, Nat.reduceAdd, Nat.reduceSub, Nat.reduceMul, Nat.reduceLT, Nat.reduceLeDiff, Nat.reduceEqDiff, Nat.reduceBEq, Nat.reduceBNe, Int.reduceToNat, Int.reduceLT, Int.reduceLE, Int.reduceNeg, reduceCtorEq, Int.reduceEq, Int.reduceNe, List.length_map, List.take_length, Nat.zero_add, Nat.le_refl]
theorem collect89 (g : Nat) (caps : List AV) (hc : ∀ x ∈ caps, Cl x) (l : List (List Int)) (hl : l.length < 2 ^ 36) (hfz : ∀ H, caps.map (frzA H 2) = caps) (hnm : ∀ H, caps.flatMap (namesA H 2) = []) (h : ISeq Tryd.prog g caps (l.map rowC)) : RFun Tryd.prog 89 [.fn g caps] 1 (l.map rowC) (.sl 0 0 l.length) := by
  refine RFun.intro 400 0 mixed Tryd.func89 (by kernel_rfl) rfl (clRows _) (Nat.le_of_ble_eq_true rfl) ?_; rw [Tryd.ntmps89, Tryd.results89]
  simp -dsimp -implicitDefEqProofs (maxSteps := 1000000) only [go_sem, ↓reduceIte, Nat.reduceAdd, Nat.reduceSub, Nat.reduceMul, Nat.reduceLT, Nat.reduceLeDiff, Nat.reduceEqDiff, Nat.reduceBEq, Nat.reduceBNe, Int.reduceToNat, Int.reduceLT, Int.reduceLE, Int.reduceNeg, reduceCtorEq, Int.reduceEq, Int.reduceNe]
  have hap : NFun Tryd.prog 103 [.v (.slice none 0 0), .fn g caps] 1 (l.map rowC) := by rw [NFun, List.length_map]; exact append103 g caps hc l hl hfz hnm h
  refine AtFn.new hap ?_
  simp -dsimp -implicitDefEqProofs (maxSteps := 1000000) only [go_sem, ↓reduceIte, Nat.reduceAdd, Nat.reduceSub, Nat.reduceMul, Nat.reduceLT, Nat.reduceLeDiff, Nat.reduceEqDiff, Nat.reduceBEq, Nat.reduceBNe, Int.reduceToNat, Int.reduceLT, Int.reduceLE, Int.reduceNeg, reduceCtorEq, Int.reduceEq, Int.reduceNe, hfz, hnm, List.length_map]
  exact hc
/-- Reversed from both ends so far. -/
def revP {α : Type} (z : α) (C : List α) (i : Nat) : List α := (List.range C.length).map fun k => if k < i ∨ C.length - i ≤ k then C.getD (C.length - 1 - k) z else C.getD k z
theorem revP_0 {α : Type} (z : α) (C : List α) : revP z C 0 = C := by
  unfold revP
  refine List.ext_getElem? fun k => ?_
  rw [List.getElem?_map]
  by_cases hk : k < C.length
  · rw [List.getElem?_range hk, Option.map_some, if_neg (by omega), List.getD, List.getElem?_eq_getElem hk]; rfl
  · rw [List.getElem?_eq_none (by simp; omega), List.getElem?_eq_none (by omega)]; rfl
theorem revP_len {α : Type} (z : α) (C : List α) (i : Nat) : (revP z C i).length = C.length := by simp [revP]
theorem revP_n {α : Type} (z : α) (C : List α) (i : Nat) (h : C.length ≤ 2 * i + 1) : revP z C i = C.reverse := by
  unfold revP
  refine List.ext_getElem? fun k => ?_
  rw [List.getElem?_map]
  by_cases hk : k < C.length
  · rw [List.getElem?_range hk, List.getElem?_reverse hk, Option.map_some]
    have e1 : C[C.length - 1 - k]? = some (C.getD (C.length - 1 - k) z) := by rw [List.getD, List.getElem?_eq_getElem (by omega)]; rfl
    rw [e1]
    split
    · rfl
    · rw [show C.length - 1 - k = k by omega]
  · rw [List.getElem?_eq_none (by simp; omega), List.getElem?_eq_none (by simp; omega)]; rfl
theorem revP_get {α : Type} (z : α) (C : List α) (i k : Nat) (h1 : i ≤ k) (h2 : k < C.length - i) : (revP z C i)[k]? = some (C.getD k z) := by
  unfold revP
  rw [List.getElem?_map, List.getElem?_range (by omega), Option.map_some, if_neg (by omega)]
theorem revP_set {α : Type} (z : α) (C : List α) (i j : Nat) (hj : i + j + 1 = C.length) (hij : i < j) : ((revP z C i).set i (C.getD j z)).set j (C.getD i z) = revP z C (i + 1) := by
  unfold revP
  refine List.ext_getElem? fun k => ?_
  rw [List.getElem?_set, List.getElem?_set]
  by_cases hk : k < C.length
  · simp only [List.length_set, List.length_map, List.length_range, List.getElem?_map, List.getElem?_range hk, Option.map_some]
    by_cases h1 : j = k
    · subst h1
      rw [if_pos rfl, if_pos hk, if_pos (by omega), show C.length - 1 - j = i by omega]
    · rw [if_neg h1]
      by_cases h2 : i = k
      · subst h2
        rw [if_pos rfl, if_pos hk, if_pos (by omega), show C.length - 1 - i = j by omega]
      · rw [if_neg h2]
        by_cases h3 : k < i ∨ C.length - i ≤ k
        · rw [if_pos h3, if_pos (by omega)]
        · rw [if_neg h3, if_neg (by omega)]
  · simp only [List.length_set, List.length_map, List.length_range]
    rw [if_neg (by omega), if_neg (by omega)]
    rw [List.getElem?_eq_none (by simp; omega), List.getElem?_eq_none (by simp; omega)]
theorem reverse90 (l : List (List Int)) (hl0 : l ≠ []) (hl : l.length ≤ 4294967296) : MFun Tryd.prog 90 [.sl 0 0 l.length] [(0, ⟨1, l.map rowC⟩)] 1 none [0] (.t []) [(0, ⟨1, l.reverse.map rowC⟩)] 1 none := by
  have hlp : 1 ≤ l.length := by cases l with | nil => exact absurd rfl hl0 | cons _ _ => simp
  have e0 := wrS1 hlp (by omega)
  refine MFun.intro2 400 [] mixed Tryd.func90 (by kernel_rfl) rfl (by rw [Tryd.results90]; rfl) (Nat.le_of_ble_eq_true rfl) ?_; rw [Tryd.ntmps90]
  simp -dsimp -implicitDefEqProofs (maxSteps := 1000000) only [go_sem, ↓reduceIte, Nat.reduceAdd, Nat.reduceSub, Nat.reduceMul, Nat.reduceLT, Nat.reduceLeDiff, Nat.reduceEqDiff, Nat.reduceBEq, Nat.reduceBNe, Int.reduceToNat, Int.reduceLT, Int.reduceLE, Int.reduceNeg, reduceCtorEq, Int.reduceEq, Int.reduceNe, e0]
  refine ⟨{i : Nat // 2 * i ≤ l.length}, fun i => ⟨28, tl [(0, .sl 0 0 l.length), (2, I i.1), (3, I ((l.length : Int) - 1 - i.1))], [(0, ⟨1, (revP [] l i.1).map rowC⟩)], 1, ⟨[tl [(0, .sl 0 0 l.length)]], some (.mp none)⟩⟩, fun i => l.length - i.1,
    ⟨⟨0, by omega⟩, Le.tl (Ls := [[(0, .sl 0 0 l.length)]]) [] ?_ ?_ (by simp) (by simp [sg]) ⟨by simp -dsimp -implicitDefEqProofs (maxSteps := 1000000) only [go_sem, ↓reduceIte, Nat.reduceAdd, Nat.reduceSub, Nat.reduceMul, Nat.reduceLT, Nat.reduceLeDiff, Nat.reduceEqDiff, Nat.reduceBEq, Nat.reduceBNe, Int.reduceToNat, Int.reduceLT, Int.reduceLE, Int.reduceNeg, reduceCtorEq, Int.reduceEq, Int.reduceNe], trivial⟩⟩, fun i => ?_⟩
  · simp -dsimp -implicitDefEqProofs (maxSteps := 1000000) only [go_sem, ↓reduceIte, Nat.reduceAdd, Nat.reduceSub, Nat.reduceMul, Nat.reduceLT, Nat.reduceLeDiff, Nat.reduceEqDiff, Nat.reduceBEq, Nat.reduceBNe, Int.reduceToNat, Int.reduceLT, Int.reduceLE, Int.reduceNeg, reduceCtorEq, Int.reduceEq, Int.reduceNe]
    congr 1
    omega
  · simp -dsimp -implicitDefEqProofs (maxSteps := 1000000) only [go_sem, ↓reduceIte, Nat.reduceAdd, Nat.reduceSub, Nat.reduceMul, Nat.reduceLT, Nat.reduceLeDiff, Nat.reduceEqDiff, Nat.reduceBEq, Nat.reduceBNe, Int.reduceToNat, Int.reduceLT, Int.reduceLE, Int.reduceNeg, reduceCtorEq, Int.reduceEq, Int.reduceNe]
    exact renL_cl2 (by rw [revP_0]) (clRows _)
  obtain ⟨i, hi⟩ := i
  simp -dsimp -implicitDefEqProofs (maxSteps := 1000000) only [go_sem, ↓reduceIte, Nat.reduceAdd, Nat.reduceSub, Nat.reduceMul, Nat.reduceLT, Nat.reduceLeDiff, Nat.reduceEqDiff, Nat.reduceBEq, Nat.reduceBNe, Int.reduceToNat, Int.reduceLT, Int.reduceLE, Int.reduceNeg, reduceCtorEq, Int.reduceEq, Int.reduceNe]
  refine ⟨fun h => ?_, fun h => ?_⟩
  · obtain ⟨j, hj⟩ : ∃ j : Nat, (l.length : Int) - 1 - i = (j : Int) := Int.eq_ofNat_of_zero_le (by omega)
    rw [hj] at h ⊢
    have g1 := revP_get [] l i i (by omega) (by omega)
    have g2 := revP_get [] l i j (by omega) (by omega)
    have c1 : (i : Int) < (l.length : Int) := by omega
    have c2 : (j : Int) < (l.length : Int) := by omega
    have g3 : ∀ x : List AV, (((revP [] l i).map rowC).set i x)[j]? = some (rowC (l.getD j [])) := fun x => by
      rw [List.getElem?_set_ne (by omega), List.getElem?_map, g2]; rfl
    have e1 : wr ((i : Int) + 1) = ((i + 1 : Nat) : Int) := wrA1 (by omega)
    have e2 : wr ((j : Int) - 1) = (l.length : Int) - 1 - ((i + 1 : Nat) : Int) := by rw [wr_in] <;> omega
    refine AtCode.drawB 13 [([], []), ([], []), ([], [0]), ([], [0]), ([], []), ([], []), ([4, 5], []), ([4, 5, 6], []), ([], []), ([], []), ([8, 9], []), ([8, 9, 10], []), ([0, 1, 4, 5, 6, 7, 8, 9, 10, 11], []), ([0, 1, 4, 5, 6, 7, 8, 9, 10, 11, 12], []), ([0, 1, 2, 3, 4, 5, 6, 7, 8, 9, 10, 11, 12, 13], []), ([0, 1, 2, 3, 4, 5, 6, 7, 8, 9, 10, 11, 12, 13, 14], [])] [false, true, true] (by kernel_rfl) ?_
    simp -dsimp -implicitDefEqProofs (maxSteps := 1000000) only [go_sem, ↓reduceIte, Nat.reduceAdd, Nat.reduceSub, Nat.reduceMul, Nat.reduceLT, Nat.reduceLeDiff, Nat.reduceEqDiff, Nat.reduceBEq, Nat.reduceBNe, Int.reduceToNat, Int.reduceLT, Int.reduceLE, Int.reduceNeg, reduceCtorEq, Int.reduceEq, Int.reduceNe, List.length_map, revP_len, List.getElem?_map, Int.natCast_nonneg, Int.toNat_natCast, Nat.zero_add, g1, g2, g3, c1, c2]
    refine ⟨by kernel_rfl, ⟨i + 1, by omega⟩, by show l.length - (i + 1) < l.length - i; omega, Le.tl (Ls := [[(0, .sl 0 0 l.length)]]) [] (by simp -dsimp -implicitDefEqProofs (maxSteps := 1000000) only [go_sem, ↓reduceIte, Nat.reduceAdd, Nat.reduceSub, Nat.reduceMul, Nat.reduceLT, Nat.reduceLeDiff, Nat.reduceEqDiff, Nat.reduceBEq, Nat.reduceBNe, Int.reduceToNat, Int.reduceLT, Int.reduceLE, Int.reduceNeg, reduceCtorEq, Int.reduceEq, Int.reduceNe, e1, e2]) ?_ (by simp) (by simp [sg]) ⟨by simp -dsimp -implicitDefEqProofs (maxSteps := 1000000) only [go_sem, ↓reduceIte, Nat.reduceAdd, Nat.reduceSub, Nat.reduceMul, Nat.reduceLT, Nat.reduceLeDiff, Nat.reduceEqDiff, Nat.reduceBEq, Nat.reduceBNe, Int.reduceToNat, Int.reduceLT, Int.reduceLE, Int.reduceNeg, reduceCtorEq, Int.reduceEq, Int.reduceNe], trivial⟩⟩
    simp -dsimp -implicitDefEqProofs (maxSteps := 1000000) only [go_sem, ↓reduceIte, Nat.reduceAdd, Nat.reduceSub, Nat.reduceMul, Nat.reduceLT, Nat.reduceLeDiff, Nat.reduceEqDiff, Nat.reduceBEq, Nat.reduceBNe, Int.reduceToNat, Int.reduceLT, Int.reduceLE, Int.reduceNeg, reduceCtorEq, Int.reduceEq, Int.reduceNe]
    refine renL_cl2 ?_ (clRows _)
    rw [← revP_set [] l i j (by omega) (by omega), List.map_set, List.map_set]
  · refine FinM2.mkv [] [(0, .sl 0 0 l.length)] ?_ ?_ ?_ ?_ ?_
    · simp -dsimp -implicitDefEqProofs (maxSteps := 1000000) only [go_sem, ↓reduceIte, Nat.reduceAdd, Nat.reduceSub, Nat.reduceMul, Nat.reduceLT, Nat.reduceLeDiff, Nat.reduceEqDiff, Nat.reduceBEq, Nat.reduceBNe, Int.reduceToNat, Int.reduceLT, Int.reduceLE, Int.reduceNeg, reduceCtorEq, Int.reduceEq, Int.reduceNe]
      exact renL_cl2 (by rw [revP_n _ _ _ (by omega)]) (clRows _)
    · simp
    · simp [sg]
    · simp -dsimp -implicitDefEqProofs (maxSteps := 1000000) only [go_sem, ↓reduceIte, Nat.reduceAdd, Nat.reduceSub, Nat.reduceMul, Nat.reduceLT, Nat.reduceLeDiff, Nat.reduceEqDiff, Nat.reduceBEq, Nat.reduceBNe, Int.reduceToNat, Int.reduceLT, Int.reduceLE, Int.reduceNeg, reduceCtorEq, Int.reduceEq, Int.reduceNe]
    · simp only [List.mem_singleton, forall_eq]
      have hne : l.map rowC ≠ [] := by simpa using hl0
      have hne2 : l.reverse.map rowC ≠ [] := by simpa using hl0
      exact ⟨0, 0, l.length - 1, _, _, by rw [Nat.sub_add_cancel (by omega)]; rfl, by rw [Nat.sub_add_cancel (by omega)]; simp -dsimp -implicitDefEqProofs (maxSteps := 1000000) only [go_sem, ↓reduceIte, Nat.reduceAdd, Nat.reduceSub, Nat.reduceMul, Nat.reduceLT, Nat.reduceLeDiff, Nat.reduceEqDiff, Nat.reduceBEq, Nat.reduceBNe, Int.reduceToNat, Int.reduceLT, Int.reduceLE, Int.reduceNeg, reduceCtorEq, Int.reduceEq, Int.reduceNe], rfl, rfl, rfl, hne, hne2⟩
/-- The rows of a raster, the uppermost first. -/
def rowsP (w : Nat) (p : List Int) : List (List Int) := (chunkL w p).reverse
theorem chunkL_len {α : Type} (n : Nat) (l : List α) : (chunkL n l).length = (l.length + n - 1) / n := by simp [chunkL]
theorem rows63 (w : Nat) (h : Int) (p : List Int) (w1 : 1 ≤ w) (w2 : w ≤ 65536) (hp1 : 1 ≤ p.length) (hp : p.length ≤ 65536) : NFun Tryd.prog 63 [.g [I w, I h, .ro 1 (pxC p)]] 1 ((rowsP w p).map rowC) := by
  refine MFun.toN ?_ (clRows _)
  have hch := chunk56 p w w1
  have hsq := chunk86 p w w1 w2 (by omega)
  have hlen := chunkL_len w p
  have hl2 : (chunkL w p).length ≤ 65536 := by
    rw [hlen]
    have : (p.length + w - 1) / w ≤ p.length := by
      have := Nat.div_mul_le_self (p.length + w - 1) w
      rcases Nat.lt_or_ge p.length ((p.length + w - 1) / w) with h1 | h1
      · exfalso
        have := (chunk_lt (n := w) (q := p.length) (L := p.length) w1).2 h1
        have := Nat.mul_le_mul_left p.length w1
        omega
      · exact h1
    omega
  have hl0 : chunkL w p ≠ [] := by
    intro e
    have : 0 < (p.length + w - 1) / w := (chunk_lt (n := w) (q := 0) (L := p.length) w1).1 (by omega)
    rw [← hlen, e] at this
    exact absurd this (Nat.lt_irrefl 0)
  have hco : NFun Tryd.prog 89 [.fn 86 [.rp [.ro 1 (pxC p)] 0, .rp [I (w : Int)] 0]] 1 ((chunkL w p).map rowC) := by
    rw [NFun, List.length_map]
    exact collect89 86 _ (by simp [Cl_rp, Cl_ro, Cl_v, clPxT]) (chunkL w p) (by omega) (fun _ => rfl) (fun _ => rfl) hsq
  refine MFun.intro 400 [2] mixed Tryd.func63 (by kernel_rfl) rfl (by rw [Tryd.results63]; rfl) (Nat.le_of_ble_eq_true rfl) ?_; rw [Tryd.ntmps63]
  simp -dsimp -implicitDefEqProofs (maxSteps := 1000000) only [go_sem, ↓reduceIte, Nat.reduceAdd, Nat.reduceSub, Nat.reduceMul, Nat.reduceLT, Nat.reduceLeDiff, Nat.reduceEqDiff, Nat.reduceBEq, Nat.reduceBNe, Int.reduceToNat, Int.reduceLT, Int.reduceLE, Int.reduceNeg, reduceCtorEq, Int.reduceEq, Int.reduceNe]
  refine AtFn.pure0 hch ?_
  simp -dsimp -implicitDefEqProofs (maxSteps := 1000000) only [go_sem, ↓reduceIte, Nat.reduceAdd, Nat.reduceSub, Nat.reduceMul, Nat.reduceLT, Nat.reduceLeDiff, Nat.reduceEqDiff, Nat.reduceBEq, Nat.reduceBNe, Int.reduceToNat, Int.reduceLT, Int.reduceLE, Int.reduceNeg, reduceCtorEq, Int.reduceEq, Int.reduceNe]
  refine AtFn.new hco ?_
  simp -dsimp -implicitDefEqProofs (maxSteps := 1000000) only [go_sem, ↓reduceIte, Nat.reduceAdd, Nat.reduceSub, Nat.reduceMul, Nat.reduceLT, Nat.reduceLeDiff, Nat.reduceEqDiff, Nat.reduceBEq, Nat.reduceBNe, Int.reduceToNat, Int.reduceLT, Int.reduceLE, Int.reduceNeg, reduceCtorEq, Int.reduceEq, Int.reduceNe, List.length_map]
  have hrv := reverse90 (chunkL w p) hl0 (by omega)
  obtain ⟨m, hm⟩ : ∃ m, m = (chunkL w p).length := ⟨_, rfl⟩
  rw [← hm] at hrv ⊢
  refine AtFn.le ⟨13, tl [(3, .sl 0 0 m), (10, .sl 0 0 m)], [(0, ⟨1, (chunkL w p).map rowC⟩)], 1, ⟨[tl []], some (.mp none)⟩⟩ [.sl 0 0 m] (Le.tl (Ls := [[]]) [(0, 1)] (by simp -dsimp -implicitDefEqProofs (maxSteps := 1000000) only [go_sem, ↓reduceIte, Nat.reduceAdd, Nat.reduceSub, Nat.reduceMul, Nat.reduceLT, Nat.reduceLeDiff, Nat.reduceEqDiff, Nat.reduceBEq, Nat.reduceBNe, Int.reduceToNat, Int.reduceLT, Int.reduceLE, Int.reduceNeg, reduceCtorEq, Int.reduceEq, Int.reduceNe]) ?_ (by simp) (by simp [sg]) ⟨by simp -dsimp -implicitDefEqProofs (maxSteps := 1000000) only [go_sem, ↓reduceIte, Nat.reduceAdd, Nat.reduceSub, Nat.reduceMul, Nat.reduceLT, Nat.reduceLeDiff, Nat.reduceEqDiff, Nat.reduceBEq, Nat.reduceBNe, Int.reduceToNat, Int.reduceLT, Int.reduceLE, Int.reduceNeg, reduceCtorEq, Int.reduceEq, Int.reduceNe], trivial⟩) (by intro fo xs ts h; cases h; exact ⟨by simp -dsimp -implicitDefEqProofs (maxSteps := 1000000) only [go_sem, ↓reduceIte, Nat.reduceAdd, Nat.reduceSub, Nat.reduceMul, Nat.reduceLT, Nat.reduceLeDiff, Nat.reduceEqDiff, Nat.reduceBEq, Nat.reduceBNe, Int.reduceToNat, Int.reduceLT, Int.reduceLE, Int.reduceNeg, reduceCtorEq, Int.reduceEq, Int.reduceNe], by simp -dsimp -implicitDefEqProofs (maxSteps := 1000000) only [go_sem, ↓reduceIte, Nat.reduceAdd, Nat.reduceSub, Nat.reduceMul, Nat.reduceLT, Nat.reduceLeDiff, Nat.reduceEqDiff, Nat.reduceBEq, Nat.reduceBNe, Int.reduceToNat, Int.reduceLT, Int.reduceLE, Int.reduceNeg, reduceCtorEq, Int.reduceEq, Int.reduceNe]⟩) ?_
  · simp -dsimp -implicitDefEqProofs (maxSteps := 1000000) only [go_sem, ↓reduceIte, Nat.reduceAdd, Nat.reduceSub, Nat.reduceMul, Nat.reduceLT, Nat.reduceLeDiff, Nat.reduceEqDiff, Nat.reduceBEq, Nat.reduceBNe, Int.reduceToNat, Int.reduceLT, Int.reduceLE, Int.reduceNeg, reduceCtorEq, Int.reduceEq, Int.reduceNe]
    exact renL_cl rfl (clRows _)
  refine AtFn.m' (h0 := [(0, ⟨1, (chunkL w p).map rowC⟩)]) (hr := []) (k' := 1) id hrv (MOk.id (Ls := [[]]) (by simp) (by simp -dsimp -implicitDefEqProofs (maxSteps := 1000000) only [go_sem, ↓reduceIte, Nat.reduceAdd, Nat.reduceSub, Nat.reduceMul, Nat.reduceLT, Nat.reduceLeDiff, Nat.reduceEqDiff, Nat.reduceBEq, Nat.reduceBNe, Int.reduceToNat, Int.reduceLT, Int.reduceLE, Int.reduceNeg, reduceCtorEq, Int.reduceEq, Int.reduceNe, id_eq]) ?_ (by simp -dsimp -implicitDefEqProofs (maxSteps := 1000000) only [go_sem, ↓reduceIte, Nat.reduceAdd, Nat.reduceSub, Nat.reduceMul, Nat.reduceLT, Nat.reduceLeDiff, Nat.reduceEqDiff, Nat.reduceBEq, Nat.reduceBNe, Int.reduceToNat, Int.reduceLT, Int.reduceLE, Int.reduceNeg, reduceCtorEq, Int.reduceEq, Int.reduceNe, id_eq]) (by simp -dsimp -implicitDefEqProofs (maxSteps := 1000000) only [go_sem, ↓reduceIte, Nat.reduceAdd, Nat.reduceSub, Nat.reduceMul, Nat.reduceLT, Nat.reduceLeDiff, Nat.reduceEqDiff, Nat.reduceBEq, Nat.reduceBNe, Int.reduceToNat, Int.reduceLT, Int.reduceLE, Int.reduceNeg, reduceCtorEq, Int.reduceEq, Int.reduceNe, id_eq]) ?_ (by simp) ?_ (.cl (by simp [Cl_t])) (by simp) (by simp) (by simp)) ?_
  · simp -dsimp -implicitDefEqProofs (maxSteps := 1000000) only [go_sem, ↓reduceIte, Nat.reduceAdd, Nat.reduceSub, Nat.reduceMul, Nat.reduceLT, Nat.reduceLeDiff, Nat.reduceEqDiff, Nat.reduceBEq, Nat.reduceBNe, Int.reduceToNat, Int.reduceLT, Int.reduceLE, Int.reduceNeg, reduceCtorEq, Int.reduceEq, Int.reduceNe, id_eq]
    exact renL_cl rfl (clRows _)
  · simp -dsimp -implicitDefEqProofs (maxSteps := 1000000) only [go_sem, ↓reduceIte, Nat.reduceAdd, Nat.reduceSub, Nat.reduceMul, Nat.reduceLT, Nat.reduceLeDiff, Nat.reduceEqDiff, Nat.reduceBEq, Nat.reduceBNe, Int.reduceToNat, Int.reduceLT, Int.reduceLE, Int.reduceNeg, reduceCtorEq, Int.reduceEq, Int.reduceNe, id_eq]
  · simp -dsimp -implicitDefEqProofs (maxSteps := 1000000) only [go_sem, ↓reduceIte, Nat.reduceAdd, Nat.reduceSub, Nat.reduceMul, Nat.reduceLT, Nat.reduceLeDiff, Nat.reduceEqDiff, Nat.reduceBEq, Nat.reduceBNe, Int.reduceToNat, Int.reduceLT, Int.reduceLE, Int.reduceNeg, reduceCtorEq, Int.reduceEq, Int.reduceNe, id_eq]
    exact renL_cl rfl (clRows _)
  simp -dsimp -implicitDefEqProofs (maxSteps := 1000000) only [go_sem, ↓reduceIte, Nat.reduceAdd, Nat.reduceSub, Nat.reduceMul, Nat.reduceLT, Nat.reduceLeDiff, Nat.reduceEqDiff, Nat.reduceBEq, Nat.reduceBNe, Int.reduceToNat, Int.reduceLT, Int.reduceLE, Int.reduceNeg, reduceCtorEq, Int.reduceEq, Int.reduceNe]
  have hr : (rowsP w p).length = m := by unfold rowsP; rw [List.length_reverse, hm]
  rw [hr]
  exact FinM.mk0 [] (by simp -dsimp -implicitDefEqProofs (maxSteps := 1000000) only [go_sem, ↓reduceIte, Nat.reduceAdd, Nat.reduceSub, Nat.reduceMul, Nat.reduceLT, Nat.reduceLeDiff, Nat.reduceEqDiff, Nat.reduceBEq, Nat.reduceBNe, Int.reduceToNat, Int.reduceLT, Int.reduceLE, Int.reduceNeg, reduceCtorEq, Int.reduceEq, Int.reduceNe]) (by simp -dsimp -implicitDefEqProofs (maxSteps := 1000000) only [go_sem, ↓reduceIte, Nat.reduceAdd, Nat.reduceSub, Nat.reduceMul, Nat.reduceLT, Nat.reduceLeDiff, Nat.reduceEqDiff, Nat.reduceBEq, Nat.reduceBNe, Int.reduceToNat, Int.reduceLT, Int.reduceLE, Int.reduceNeg, reduceCtorEq, Int.reduceEq, Int.reduceNe]; exact renL_cl rfl (clRows _)) (by simp) (by simp [sg])
end

section
set_option maxRecDepth 20000
attribute [local go_sem] clPxT
theorem byC_len (l : List UInt8) : (byC l).length = l.length := by simp [byC]
theorem takeBy (l : List UInt8) : takeA 0 l.length (byC l) = byC l := by rw [takeA_eq, List.drop_zero, List.take_of_length_le (by rw [byC_len]; exact Nat.le_refl _)]
theorem clBy (l : List UInt8) : ∀ c ∈ byC l, ∀ s ∈ c, Cl s := fun c hc s hs => by
  obtain ⟨x, _, rfl⟩ := List.mem_map.1 hc
  rw [List.mem_singleton.1 hs]; exact .v _
theorem oneBy (l : List UInt8) : (∀ c ∈ byC l, ∀ s ∈ c, oneA s = true) ↔ True := iff_true_intro fun c hc s hs => by
  obtain ⟨x, _, rfl⟩ := List.mem_map.1 hc
  rw [List.mem_singleton.1 hs]; rfl
theorem byC_app (T : List UInt8) (l : List UInt8) : byC T ++ List.map (fun b => [AV.v (Value.int IntKind.u8 (b.toNat : Int))]) l = byC (T ++ l) := by simp [byC]
theorem byC_app2 (T l : List UInt8) : byC T ++ byC l = byC (T ++ l) := by simp [byC]
theorem byC_app0 (l : List UInt8) : List.map (fun b => [AV.v (Value.int IntKind.u8 (b.toNat : Int))]) l = byC l := rfl
theorem hp80 : ∃ d, Tryd.prog.underlying 80 = some (TypeDesc.pointer d) ∧ 0 < szT Tryd.prog d := ⟨82, by kernel_rfl, by rw [show szT Tryd.prog 82 = 2 by kernel_rfl]; decide⟩
abbrev nilI : AV := ofV Value.nilIface
theorem size_len (s : ByteArray) : s.data.toList.length = s.size := by rw [Array.length_toList]; rfl
theorem ws64u {rec : List It → (AState → Prop) → AState → Prop} {o : Oper} {k : List It} {Q : AState → Prop} {t : Nat → AV} {sv : List (Nat → AV)} (X0 X2 : Blk) (T : List UInt8) (s : ByteArray) (hT : T ≠ []) (hl : T.length + s.size ≤ 1073741824)
    (h100 : t 100 = .tb 1 82) (h101 : t 101 = .tb 3 5)
    (hk : rec k Q (putA ⟨46, upd t 101 (.tb 4 5), [(4, ⟨1, byC (T ++ s.data.toList)⟩), (1, ⟨2, [[.ptr 1 0 0, .sl 4 0 (T ++ s.data.toList).length]]⟩), (2, X2), (0, X0)], 5, ⟨sv, some (.mp none)⟩⟩ o.dst (.t [I s.size, nilI]))) :
    AtFn Tryd.prog rec o 64 [.ptr 1 0 0, .v (.string s)] k Q ⟨46, t, [(1, ⟨2, [[.ptr 1 0 0, .sl 3 0 T.length]]⟩), (2, X2), (0, X0), (3, ⟨1, byC T⟩)], 4, ⟨sv, some (.mp none)⟩⟩ := by
  refine AtFn.inl 400 [4,5] mixed Tryd.func64 (by kernel_rfl) rfl (by rw [Tryd.results64]; rfl) (Nat.le_of_ble_eq_true rfl) ?_; rw [Tryd.ntmps64]
  simp -dsimp -implicitDefEqProofs (maxSteps := 1000000) only [go_sem, ↓reduceIte, Nat.reduceAdd, Nat.reduceSub, Nat.reduceMul, Nat.reduceLT, Nat.reduceLeDiff, Nat.reduceEqDiff, Nat.reduceBEq, Nat.reduceBNe, Int.reduceToNat, Int.reduceLT, Int.reduceLE, Int.reduceNeg, reduceCtorEq, Int.reduceEq, Int.reduceNe]
  refine AtFn.inl 400 [] mixed Tryd.func91 (by kernel_rfl) rfl (by rw [Tryd.results91]; rfl) (Nat.le_of_ble_eq_true rfl) ?_; rw [Tryd.ntmps91]
  simp -dsimp -implicitDefEqProofs (maxSteps := 1000000) only [go_sem, ↓reduceIte, Nat.reduceAdd, Nat.reduceSub, Nat.reduceMul, Nat.reduceLT, Nat.reduceLeDiff, Nat.reduceEqDiff, Nat.reduceBEq, Nat.reduceBNe, Int.reduceToNat, Int.reduceLT, Int.reduceLE, Int.reduceNeg, reduceCtorEq, Int.reduceEq, Int.reduceNe]
  refine ⟨hp80, hp80, ?_⟩
  refine AtOp.apTE (e := 5) 1 101 rfl (by kernel_rfl) (by kernel_rfl) (by simp -dsimp -implicitDefEqProofs (maxSteps := 1000000) only [go_sem, ↓reduceIte, Nat.reduceAdd, Nat.reduceSub, Nat.reduceMul, Nat.reduceLT, Nat.reduceLeDiff, Nat.reduceEqDiff, Nat.reduceBEq, Nat.reduceBNe, Int.reduceToNat, Int.reduceLT, Int.reduceLE, Int.reduceNeg, reduceCtorEq, Int.reduceEq, Int.reduceNe]; intro n i len h; cases h; rfl) ?_
  have hpos : 0 < (T ++ s.data.toList).length := by
    rw [List.length_append]
    have : 0 < T.length := List.length_pos_iff.2 hT
    omega
  simp -dsimp -implicitDefEqProofs (maxSteps := 1000000) only [go_sem, ↓reduceIte, Nat.reduceAdd, Nat.reduceSub, Nat.reduceMul, Nat.reduceLT, Nat.reduceLeDiff, Nat.reduceEqDiff, Nat.reduceBEq, Nat.reduceBNe, Int.reduceToNat, Int.reduceLT, Int.reduceLE, Int.reduceNeg, reduceCtorEq, Int.reduceEq, Int.reduceNe, byC_app0, byC_app, byC_app2, byC_len, takeBy, oneBy, Nat.zero_add, Nat.le_refl]
  exact ⟨by rw [size_len]; omega, ⟨.inr ⟨0, t, 101, rfl, h101⟩, hpos⟩, hk⟩
theorem ws64f {rec : List It → (AState → Prop) → AState → Prop} {o : Oper} {k : List It} {Q : AState → Prop} {t : Nat → AV} {sv : List (Nat → AV)} (X0 X2 : Blk) (s : ByteArray) (hs : s.size ≠ 0) (hl : s.size ≤ 1073741824)
    (h100 : t 100 = .tb 1 82)
    (hk : rec k Q (putA ⟨46, upd t 101 (.tb 4 5), [(4, ⟨1, byC s.data.toList⟩), (1, ⟨2, [[.ptr 1 0 0, .sl 4 0 s.data.toList.length]]⟩), (2, X2), (0, X0)], 5, ⟨sv, some (.mp none)⟩⟩ o.dst (.t [I s.size, nilI]))) :
    AtFn Tryd.prog rec o 64 [.ptr 1 0 0, .v (.string s)] k Q ⟨46, t, [(1, ⟨2, [[.v (.pointer none), .v (.slice none 0 0)]]⟩), (2, X2), (0, X0)], 4, ⟨sv, some (.mp none)⟩⟩ := by
  refine AtFn.inl 400 [4,5] mixed Tryd.func64 (by kernel_rfl) rfl (by rw [Tryd.results64]; rfl) (Nat.le_of_ble_eq_true rfl) ?_; rw [Tryd.ntmps64]
  simp -dsimp -implicitDefEqProofs (maxSteps := 1000000) only [go_sem, ↓reduceIte, Nat.reduceAdd, Nat.reduceSub, Nat.reduceMul, Nat.reduceLT, Nat.reduceLeDiff, Nat.reduceEqDiff, Nat.reduceBEq, Nat.reduceBNe, Int.reduceToNat, Int.reduceLT, Int.reduceLE, Int.reduceNeg, reduceCtorEq, Int.reduceEq, Int.reduceNe]
  refine AtFn.inl 400 [] mixed Tryd.func91 (by kernel_rfl) rfl (by rw [Tryd.results91]; rfl) (Nat.le_of_ble_eq_true rfl) ?_; rw [Tryd.ntmps91]
  simp -dsimp -implicitDefEqProofs (maxSteps := 1000000) only [go_sem, ↓reduceIte, Nat.reduceAdd, Nat.reduceSub, Nat.reduceMul, Nat.reduceLT, Nat.reduceLeDiff, Nat.reduceEqDiff, Nat.reduceBEq, Nat.reduceBNe, Int.reduceToNat, Int.reduceLT, Int.reduceLE, Int.reduceNeg, reduceCtorEq, Int.reduceEq, Int.reduceNe]
  refine ⟨hp80, ?_⟩
  refine AtOp.toU (T := 82) (T2 := 82) rfl (by kernel_rfl) (by kernel_rfl) (by kernel_rfl) (by simp -dsimp -implicitDefEqProofs (maxSteps := 1000000) only [go_sem, ↓reduceIte, Nat.reduceAdd, Nat.reduceSub, Nat.reduceMul, Nat.reduceLT, Nat.reduceLeDiff, Nat.reduceEqDiff, Nat.reduceBEq, Nat.reduceBNe, Int.reduceToNat, Int.reduceLT, Int.reduceLE, Int.reduceNeg, reduceCtorEq, Int.reduceEq, Int.reduceNe]) (.inr ⟨1, t, 100, rfl, h100⟩) (by simp -dsimp -implicitDefEqProofs (maxSteps := 1000000) only [go_sem, ↓reduceIte, Nat.reduceAdd, Nat.reduceSub, Nat.reduceMul, Nat.reduceLT, Nat.reduceLeDiff, Nat.reduceEqDiff, Nat.reduceBEq, Nat.reduceBNe, Int.reduceToNat, Int.reduceLT, Int.reduceLE, Int.reduceNeg, reduceCtorEq, Int.reduceEq, Int.reduceNe]; rfl) (by decide) ?_
  simp -dsimp -implicitDefEqProofs (maxSteps := 1000000) only [go_sem, ↓reduceIte, Nat.reduceAdd, Nat.reduceSub, Nat.reduceMul, Nat.reduceLT, Nat.reduceLeDiff, Nat.reduceEqDiff, Nat.reduceBEq, Nat.reduceBNe, Int.reduceToNat, Int.reduceLT, Int.reduceLE, Int.reduceNeg, reduceCtorEq, Int.reduceEq, Int.reduceNe]
  refine AtFn.same Tryd.func104 (by kernel_rfl) (by kernel_rfl) (by kernel_rfl) (by kernel_rfl) ?_
  simp -dsimp -implicitDefEqProofs (maxSteps := 1000000) only [go_sem, ↓reduceIte, Nat.reduceAdd, Nat.reduceSub, Nat.reduceMul, Nat.reduceLT, Nat.reduceLeDiff, Nat.reduceEqDiff, Nat.reduceBEq, Nat.reduceBNe, Int.reduceToNat, Int.reduceLT, Int.reduceLE, Int.reduceNeg, reduceCtorEq, Int.reduceEq, Int.reduceNe]
  refine AtOp.fromU (T := 82) (e2 := 2) rfl (by kernel_rfl) (by kernel_rfl) (by kernel_rfl) (by rw [show Tryd.prog.cellsOf 82 = 2 by kernel_rfl]; decide) (by rw [show Tryd.prog.cellsOf 82 = 2 by kernel_rfl]; decide) (by simp -dsimp -implicitDefEqProofs (maxSteps := 1000000) only [go_sem, ↓reduceIte, Nat.reduceAdd, Nat.reduceSub, Nat.reduceMul, Nat.reduceLT, Nat.reduceLeDiff, Nat.reduceEqDiff, Nat.reduceBEq, Nat.reduceBNe, Int.reduceToNat, Int.reduceLT, Int.reduceLE, Int.reduceNeg, reduceCtorEq, Int.reduceEq, Int.reduceNe]) (.inr ⟨1, t, 100, rfl, h100⟩) (by simp -dsimp -implicitDefEqProofs (maxSteps := 1000000) only [go_sem, ↓reduceIte, Nat.reduceAdd, Nat.reduceSub, Nat.reduceMul, Nat.reduceLT, Nat.reduceLeDiff, Nat.reduceEqDiff, Nat.reduceBEq, Nat.reduceBNe, Int.reduceToNat, Int.reduceLT, Int.reduceLE, Int.reduceNeg, reduceCtorEq, Int.reduceEq, Int.reduceNe]; rfl) ?_
  simp -dsimp -implicitDefEqProofs (maxSteps := 1000000) only [go_sem, ↓reduceIte, Nat.reduceAdd, Nat.reduceSub, Nat.reduceMul, Nat.reduceLT, Nat.reduceLeDiff, Nat.reduceEqDiff, Nat.reduceBEq, Nat.reduceBNe, Int.reduceToNat, Int.reduceLT, Int.reduceLE, Int.reduceNeg, reduceCtorEq, Int.reduceEq, Int.reduceNe]
  refine AtOp.apTE (e := 5) 1 101 rfl (by kernel_rfl) (by kernel_rfl) (by simp -dsimp -implicitDefEqProofs (maxSteps := 1000000) only [go_sem, ↓reduceIte, Nat.reduceAdd, Nat.reduceSub, Nat.reduceMul, Nat.reduceLT, Nat.reduceLeDiff, Nat.reduceEqDiff, Nat.reduceBEq, Nat.reduceBNe, Int.reduceToNat, Int.reduceLT, Int.reduceLE, Int.reduceNeg, reduceCtorEq, Int.reduceEq, Int.reduceNe]) ?_
  have hpos : 0 < s.data.toList.length := by rw [size_len]; omega
  simp -dsimp -implicitDefEqProofs (maxSteps := 1000000) only [go_sem, ↓reduceIte, Nat.reduceAdd, Nat.reduceSub, Nat.reduceMul, Nat.reduceLT, Nat.reduceLeDiff, Nat.reduceEqDiff, Nat.reduceBEq, Nat.reduceBNe, Int.reduceToNat, Int.reduceLT, Int.reduceLE, Int.reduceNeg, reduceCtorEq, Int.reduceEq, Int.reduceNe, byC_app0, byC_app, byC_app2, byC_len, takeBy, oneBy, Nat.zero_add, Nat.le_refl]
  exact ⟨by rw [size_len]; omega, hpos, hk⟩
theorem byC_snoc (T : List UInt8) : byC T ++ [[AV.v (Value.int IntKind.u8 10)]] = byC (T ++ [10]) := by simp [byC]
theorem wb65 {rec : List It → (AState → Prop) → AState → Prop} {o : Oper} {k : List It} {Q : AState → Prop} {t : Nat → AV} {sv : List (Nat → AV)} (X0 X2 : Blk) (T : List UInt8) (hT : T ≠ []) (hl : T.length ≤ 1073741824)
    (h100 : t 100 = .tb 1 82) (h101 : t 101 = .tb 3 5)
    (hk : rec k Q (putA ⟨46, upd t 101 (.tb 5 5), [(5, ⟨1, byC (T ++ [10])⟩), (4, ⟨1, [[U 10]]⟩), (1, ⟨2, [[.ptr 1 0 0, .sl 5 0 (T ++ [10]).length]]⟩), (2, X2), (0, X0)], 6, ⟨sv, some (.mp none)⟩⟩ o.dst nilI)) :
    AtFn Tryd.prog rec o 65 [.ptr 1 0 0, U 10] k Q ⟨46, t, [(1, ⟨2, [[.ptr 1 0 0, .sl 3 0 T.length]]⟩), (2, X2), (0, X0), (3, ⟨1, byC T⟩)], 4, ⟨sv, some (.mp none)⟩⟩ := by
  refine AtFn.inl 400 [4] mixed Tryd.func65 (by kernel_rfl) rfl (by rw [Tryd.results65]; rfl) (Nat.le_of_ble_eq_true rfl) ?_; rw [Tryd.ntmps65]
  simp -dsimp -implicitDefEqProofs (maxSteps := 1000000) only [go_sem, ↓reduceIte, Nat.reduceAdd, Nat.reduceSub, Nat.reduceMul, Nat.reduceLT, Nat.reduceLeDiff, Nat.reduceEqDiff, Nat.reduceBEq, Nat.reduceBNe, Int.reduceToNat, Int.reduceLT, Int.reduceLE, Int.reduceNeg, reduceCtorEq, Int.reduceEq, Int.reduceNe]
  refine AtFn.inl 400 [] mixed Tryd.func91 (by kernel_rfl) rfl (by rw [Tryd.results91]; rfl) (Nat.le_of_ble_eq_true rfl) ?_; rw [Tryd.ntmps91]
  simp -dsimp -implicitDefEqProofs (maxSteps := 1000000) only [go_sem, ↓reduceIte, Nat.reduceAdd, Nat.reduceSub, Nat.reduceMul, Nat.reduceLT, Nat.reduceLeDiff, Nat.reduceEqDiff, Nat.reduceBEq, Nat.reduceBNe, Int.reduceToNat, Int.reduceLT, Int.reduceLE, Int.reduceNeg, reduceCtorEq, Int.reduceEq, Int.reduceNe]
  refine ⟨hp80, hp80, ?_⟩
  refine AtOp.apTE (e := 5) 1 101 rfl (by kernel_rfl) (by kernel_rfl) (by simp -dsimp -implicitDefEqProofs (maxSteps := 1000000) only [go_sem, ↓reduceIte, Nat.reduceAdd, Nat.reduceSub, Nat.reduceMul, Nat.reduceLT, Nat.reduceLeDiff, Nat.reduceEqDiff, Nat.reduceBEq, Nat.reduceBNe, Int.reduceToNat, Int.reduceLT, Int.reduceLE, Int.reduceNeg, reduceCtorEq, Int.reduceEq, Int.reduceNe]; intro n i len h; cases h; rfl) ?_
  simp -dsimp -implicitDefEqProofs (maxSteps := 1000000) only [go_sem, ↓reduceIte, Nat.reduceAdd, Nat.reduceSub, Nat.reduceMul, Nat.reduceLT, Nat.reduceLeDiff, Nat.reduceEqDiff, Nat.reduceBEq, Nat.reduceBNe, Int.reduceToNat, Int.reduceLT, Int.reduceLE, Int.reduceNeg, reduceCtorEq, Int.reduceEq, Int.reduceNe, byC_len, takeBy, oneBy, Nat.zero_add, Nat.le_refl, byC_snoc]
  exact ⟨by omega, ⟨.inr ⟨0, t, 101, rfl, h101⟩, by simp⟩, hk⟩
theorem str66 {rec : List It → (AState → Prop) → AState → Prop} {o : Oper} {k : List It} {Q : AState → Prop} {t : Nat → AV} {sv : List (Nat → AV)} (X0 X2 : Blk) (T : List UInt8) (hT : T ≠ []) (hl : T.length ≤ 1073741824)
    (h100 : t 100 = .tb 1 82) (h101 : t 101 = .tb 3 5)
    (hk : rec k Q (putA ⟨46, t, [(1, ⟨2, [[.ptr 1 0 0, .sl 3 0 T.length]]⟩), (2, X2), (0, X0)], 14, ⟨sv, some (.mp none)⟩⟩ o.dst (.v (.string ⟨T.toArray⟩)))) :
    AtFn Tryd.prog rec o 66 [.ptr 1 0 0] k Q ⟨46, t, [(1, ⟨2, [[.ptr 1 0 0, .sl 3 0 T.length]]⟩), (2, X2), (0, X0), (3, ⟨1, byC T⟩)], 4, ⟨sv, some (.mp none)⟩⟩ := by
  have hpos : 0 < T.length := List.length_pos_iff.2 hT
  refine AtFn.inl 400 [2] mixed Tryd.func66 (by kernel_rfl) rfl (by rw [Tryd.results66]; rfl) (Nat.le_of_ble_eq_true rfl) ?_; rw [Tryd.ntmps66]
  simp -dsimp -implicitDefEqProofs (maxSteps := 1000000) only [go_sem, ↓reduceIte, Nat.reduceAdd, Nat.reduceSub, Nat.reduceMul, Nat.reduceLT, Nat.reduceLeDiff, Nat.reduceEqDiff, Nat.reduceBEq, Nat.reduceBNe, Int.reduceToNat, Int.reduceLT, Int.reduceLE, Int.reduceNeg, reduceCtorEq, Int.reduceEq, Int.reduceNe]
  refine AtCode.draw 10 [([], []), ([0], []), ([0, 1], []), ([0, 1, 2], []), ([0, 1, 2, 3], []), ([], []), ([5], []), ([5, 6], []), ([5, 6, 7], []), ([5, 6, 7, 8], []), ([0, 1, 2, 3, 4, 5, 6, 7, 8, 9], []), ([0, 1, 2, 3, 4, 5, 6, 7, 8, 9, 10], [])] (by kernel_rfl) ?_
  simp -dsimp -implicitDefEqProofs (maxSteps := 1000000) only [go_sem, ↓reduceIte, Nat.reduceAdd, Nat.reduceSub, Nat.reduceMul, Nat.reduceLT, Nat.reduceLeDiff, Nat.reduceEqDiff, Nat.reduceBEq, Nat.reduceBNe, Int.reduceToNat, Int.reduceLT, Int.reduceLE, Int.reduceNeg, reduceCtorEq, Int.reduceEq, Int.reduceNe, hpos]
  refine AtOp.ustr (m := 3) (e := 5) (l := T) rfl (by kernel_rfl) (by kernel_rfl) (by simp -dsimp -implicitDefEqProofs (maxSteps := 1000000) only [go_sem, ↓reduceIte, Nat.reduceAdd, Nat.reduceSub, Nat.reduceMul, Nat.reduceLT, Nat.reduceLeDiff, Nat.reduceEqDiff, Nat.reduceBEq, Nat.reduceBNe, Int.reduceToNat, Int.reduceLT, Int.reduceLE, Int.reduceNeg, reduceCtorEq, Int.reduceEq, Int.reduceNe]) (by simp -dsimp -implicitDefEqProofs (maxSteps := 1000000) only [go_sem, ↓reduceIte, Nat.reduceAdd, Nat.reduceSub, Nat.reduceMul, Nat.reduceLT, Nat.reduceLeDiff, Nat.reduceEqDiff, Nat.reduceBEq, Nat.reduceBNe, Int.reduceToNat, Int.reduceLT, Int.reduceLE, Int.reduceNeg, reduceCtorEq, Int.reduceEq, Int.reduceNe]) (.inr ⟨0, t, 101, rfl, h101⟩) (by simp -dsimp -implicitDefEqProofs (maxSteps := 1000000) only [go_sem, ↓reduceIte, Nat.reduceAdd, Nat.reduceSub, Nat.reduceMul, Nat.reduceLT, Nat.reduceLeDiff, Nat.reduceEqDiff, Nat.reduceBEq, Nat.reduceBNe, Int.reduceToNat, Int.reduceLT, Int.reduceLE, Int.reduceNeg, reduceCtorEq, Int.reduceEq, Int.reduceNe]) hT (by omega) ?_
  simp -dsimp -implicitDefEqProofs (maxSteps := 1000000) only [go_sem, ↓reduceIte, Nat.reduceAdd, Nat.reduceSub, Nat.reduceMul, Nat.reduceLT, Nat.reduceLeDiff, Nat.reduceEqDiff, Nat.reduceBEq, Nat.reduceBNe, Int.reduceToNat, Int.reduceLT, Int.reduceLE, Int.reduceNeg, reduceCtorEq, Int.reduceEq, Int.reduceNe]
  exact hk
end

section
set_option maxRecDepth 20000
attribute [local go_sem] clPxT
/-- A digit's byte. -/
def digB (x : Int) : UInt8 := (#[48, 49, 50, 51, 52, 53, 54, 55, 56, 57, 97, 98, 99, 100, 101, 102] : Array UInt8).getD x.toNat 0
def pxT (x : Int) : List UInt8 := if x = 0 then [46, 46] else [digB (x / 16), digB (x % 16)]
def rowT (r : List Int) : List UInt8 := r.flatMap pxT ++ [10]
def textP (r : Ra) : List UInt8 × Int := if vaB r then ((rowsP r.w.toNat r.p).flatMap rowT, 0) else ([], 2)
abbrev Str (l : List UInt8) : AV := .v (.string ⟨l.toArray⟩)
def okP (p : List Int) : Prop := ∀ x ∈ p, 0 ≤ x ∧ x ≤ 255
/-- The blocks of Text, its builder's text so far being T. -/
def bst (X0 X2 : Blk) (T : List UInt8) : List (Nat × Blk) :=
  match T with
  | [] => [(1, ⟨2, [[.v (.pointer none), .v (.slice none 0 0)]]⟩), (2, X2), (0, X0)]
  | _ => [(1, ⟨2, [[.ptr 1 0 0, .sl 3 0 T.length]]⟩), (2, X2), (0, X0), (3, ⟨1, byC T⟩)]
def gst (T : List UInt8) : List (Nat × AV) :=
  match T with
  | [] => [(100, .tb 1 82)]
  | _ => [(100, .tb 1 82), (101, .tb 3 5)]
theorem bst_nil (X0 X2 : Blk) : bst X0 X2 [] = [(1, ⟨2, [[.v (.pointer none), .v (.slice none 0 0)]]⟩), (2, X2), (0, X0)] := rfl
theorem bst_cons (X0 X2 : Blk) {T : List UInt8} (h : T ≠ []) : bst X0 X2 T = [(1, ⟨2, [[.ptr 1 0 0, .sl 3 0 T.length]]⟩), (2, X2), (0, X0), (3, ⟨1, byC T⟩)] := by
  cases T with
  | nil => exact absurd rfl h
  | cons a l => rfl
theorem gst_nil : gst [] = [(100, .tb 1 82)] := rfl
theorem gst_cons {T : List UInt8} (h : T ≠ []) : gst T = [(100, .tb 1 82), (101, .tb 3 5)] := by
  cases T with
  | nil => exact absurd rfl h
  | cons a l => rfl
theorem bst_find2 (X0 X2 : Blk) (T : List UInt8) : find (bst X0 X2 T) 2 = some X2 := by cases T <;> rfl
theorem ren_tbI {σ : Nat → Nat} {ns : List Nat} {m n : Nat} {T T' : TypeId} : Ren σ ns (.tb m T) (.tb n T') ↔ (m = σ n ∧ T = T' ∧ n ∈ ns) := by
  constructor
  · intro h
    cases h with
    | cl h => cases h
    | tb h => exact ⟨rfl, rfl, h⟩
  · rintro ⟨rfl, rfl, h⟩
    exact .tb h
attribute [local go_sem] bst_find2 ren_tbI
theorem pxT_ne (x : Int) : pxT x ≠ [] := by unfold pxT; split <;> simp
theorem pxT_len (x : Int) : (pxT x).length = 2 := by unfold pxT; split <;> rfl
theorem rowsP_len {w h : Nat} {p : List Int} (w1 : 1 ≤ w) (hlen : p.length = w * h) : (rowsP w p).length = h := by
  unfold rowsP
  rw [List.length_reverse, chunkL_len, hlen, show w * h + w - 1 = w * h + (w - 1) by omega, Nat.mul_add_div (by omega), Nat.div_eq_of_lt (by omega)]
  omega
theorem rowsP_get {w h j : Nat} {p : List Int} (w1 : 1 ≤ w) (hlen : p.length = w * h) (hj : j < h) : (rowsP w p)[j]? = some ((p.drop ((h - 1 - j) * w)).take w) := by
  have hl := rowsP_len w1 hlen
  unfold rowsP at hl ⊢
  rw [List.length_reverse] at hl
  rw [List.getElem?_reverse (by omega), hl]
  unfold chunkL at hl ⊢
  rw [List.length_map, List.length_range] at hl
  rw [List.getElem?_map, hl, List.getElem?_range (by omega)]
  rfl
theorem row_len {w h j : Nat} {p : List Int} (hlen : p.length = w * h) (hj : j < h) : ((p.drop ((h - 1 - j) * w)).take w).length = w := by
  rw [List.length_take, List.length_drop, hlen]
  have : (h - 1 - j + 1) * w ≤ h * w := Nat.mul_le_mul_right _ (by omega)
  rw [Nat.succ_mul, Nat.mul_comm h w] at this
  omega
theorem flat_len {α : Type} {l : List α} {f : α → List UInt8} {n : Nat} (h : ∀ x ∈ l, (f x).length = n) : (l.flatMap f).length = l.length * n := by
  induction l with
  | nil => simp
  | cons a l ih => rw [List.flatMap_cons, List.length_append, h a (List.mem_cons_self ..), ih (fun x hx => h x (List.mem_cons_of_mem _ hx)), List.length_cons, Nat.succ_mul]; omega
theorem rowT_len (r : List Int) : (rowT r).length = 2 * r.length + 1 := by
  unfold rowT
  rw [List.length_append, flat_len (fun x _ => pxT_len x)]
  simp; omega
abbrev digits : ByteArray := { data := #[48, 49, 50, 51, 52, 53, 54, 55, 56, 57, 97, 98, 99, 100, 101, 102] }
abbrev hA (x : Int) : Int := x.fdiv (2 ^ min 4 8)
abbrev hB (x : Int) : Int := IntKind.u8.wrap (x.fdiv (2 ^ min 4 8) + 1)
abbrev hC (x : Int) : Int := IntKind.u8.wrap ↑(BitVec.ofInt IntKind.u8.bits x &&& BitVec.ofInt IntKind.u8.bits 15).toNat
abbrev hD (x : Int) : Int := IntKind.u8.wrap (IntKind.u8.wrap ↑(BitVec.ofInt IntKind.u8.bits x &&& BitVec.ofInt IntKind.u8.bits 15).toNat + 1)
abbrev hE (x : Int) : ByteArray := digits.extract (hA x).toNat (hB x).toNat
abbrev hF (x : Int) : ByteArray := digits.extract (hC x).toNat (hD x).toNat
def hexB (x : Int) : Bool := decide (0 ≤ hA x) && decide (0 ≤ hB x) && (decide ((hA x).toNat ≤ (hB x).toNat) && decide ((hB x).toNat ≤ 16)) && decide (0 ≤ hC x) && decide (0 ≤ hD x) && (decide ((hC x).toNat ≤ (hD x).toNat) && decide ((hD x).toNat ≤ 16)) && decide ((hE x).size + (hF x).size ≤ 9223372036854775807) && decide ((hE x ++ hF x).data.toList = pxT x)
theorem hex_all : ((List.range 255).all fun n => hexB ((n : Int) + 1)) = true := by kernel_rfl
theorem hex_ok {x : Int} (h : 0 ≤ x ∧ x ≤ 255) (h0 : ¬ x = 0) : ((0 ≤ hA x ∧ 0 ≤ hB x ∧ ((hA x).toNat ≤ (hB x).toNat ∧ (hB x).toNat ≤ 16)) ∧ (0 ≤ hC x ∧ 0 ≤ hD x ∧ ((hC x).toNat ≤ (hD x).toNat ∧ (hD x).toNat ≤ 16)) ∧ (hE x).size + (hF x).size ≤ 9223372036854775807) ∧ (hE x ++ hF x).data.toList = pxT x := by
  have := List.all_eq_true.1 hex_all (x - 1).toNat (List.mem_range.2 (by omega))
  rw [show (((x - 1).toNat : Nat) : Int) + 1 = x by omega] at this
  simp only [hexB, Bool.and_eq_true, decide_eq_true_eq] at this
  obtain ⟨⟨⟨⟨⟨⟨⟨q1, q2⟩, q3⟩, q4⟩, q5⟩, q6⟩, q7⟩, q8⟩ := this
  exact ⟨⟨⟨q1, q2, q3⟩, ⟨q4, q5, q6⟩, q7⟩, q8⟩
theorem text17 (r : Ra) (hok : okP r.p) : PFun Tryd.prog 17 [RaA r] (.t [Str (textP r).1, I (textP r).2]) := by
  have hv := valid62 r
  unfold textP
  by_cases hc : vaB r = true
  · rw [if_pos hc]
    obtain ⟨w, h, p, rfl, w1, w2, h1, h2, hlen⟩ := vaR_of hc
    have hN := prodN w2 h2
    have hpos : 1 ≤ w * h := Nat.mul_pos w1 h1
    have hr := rows63 w (h : Int) p w1 (by omega) (by omega) (by omega)
    obtain ⟨R, hR⟩ : ∃ R, R = rowsP w p := ⟨_, rfl⟩
    show PFun Tryd.prog 17 [RaA ⟨w, h, p⟩] (.t [Str ((rowsP w p).flatMap rowT), I 0])
    rw [← hR] at hr ⊢
    refine PFun.introM 400 mixed Tryd.func17 (by kernel_rfl) rfl (by first | exact .v _ | (simp [Cl_v, Cl_t, Cl_g, Cl_fn, Cl_rp, Cl_ro]; done) | (simp [Cl_v, Cl_t, Cl_g, Cl_fn, Cl_rp, Cl_ro, or_imp, forall_and]; done) | (split <;> simp [Cl_v, Cl_t, Cl_g, Cl_fn, Cl_rp, Cl_ro])) (Nat.le_of_ble_eq_true rfl) ?_; rw [Tryd.ntmps17, Tryd.results17]
    simp -dsimp -implicitDefEqProofs (maxSteps := 1000000) only [go_sem, ↓reduceIte, Nat.reduceAdd, Nat.reduceSub, Nat.reduceMul, Nat.reduceLT, Nat.reduceLeDiff, Nat.reduceEqDiff, Nat.reduceBEq, Nat.reduceBNe, Int.reduceToNat, Int.reduceLT, Int.reduceLE, Int.reduceNeg, reduceCtorEq, Int.reduceEq, Int.reduceNe]
    refine AtFn.pure0 hv ?_
    simp -dsimp -implicitDefEqProofs (maxSteps := 1000000) only [go_sem, ↓reduceIte, Nat.reduceAdd, Nat.reduceSub, Nat.reduceMul, Nat.reduceLT, Nat.reduceLeDiff, Nat.reduceEqDiff, Nat.reduceBEq, Nat.reduceBNe, Int.reduceToNat, Int.reduceLT, Int.reduceLE, Int.reduceNeg, reduceCtorEq, Int.reduceEq, Int.reduceNe, hc]
    refine AtOp.allocT 0 100 rfl ?_
    simp -dsimp -implicitDefEqProofs (maxSteps := 1000000) only [go_sem, ↓reduceIte, Nat.reduceAdd, Nat.reduceSub, Nat.reduceMul, Nat.reduceLT, Nat.reduceLeDiff, Nat.reduceEqDiff, Nat.reduceBEq, Nat.reduceBNe, Int.reduceToNat, Int.reduceLT, Int.reduceLE, Int.reduceNeg, reduceCtorEq, Int.reduceEq, Int.reduceNe]
    refine AtFn.new hr ?_
    simp -dsimp -implicitDefEqProofs (maxSteps := 1000000) only [go_sem, ↓reduceIte, Nat.reduceAdd, Nat.reduceSub, Nat.reduceMul, Nat.reduceLT, Nat.reduceLeDiff, Nat.reduceEqDiff, Nat.reduceBEq, Nat.reduceBNe, Int.reduceToNat, Int.reduceLT, Int.reduceLE, Int.reduceNeg, reduceCtorEq, Int.reduceEq, Int.reduceNe, List.length_map]
    obtain ⟨X0, hX0⟩ : ∃ X0 : Blk, X0 = ⟨3, [[I w, I h, .ro 1 (pxC p)]]⟩ := ⟨_, rfl⟩
    have hX0c : ∀ c ∈ X0.l, ∀ s ∈ c, Cl s := by rw [hX0]; simp [Cl_v, Cl_ro, clPxT]
    have hRh : R.length = h := by rw [hR]; exact rowsP_len w1 hlen
    have hRl : R.length ≤ 65536 := by omega
    have hRg : ∀ j, j < R.length → R[j]? = some ((p.drop ((h - 1 - j) * w)).take w) := fun j hj => by rw [hR]; exact rowsP_get w1 hlen (by omega)
    have hRw : ∀ r ∈ R, r.length = w := fun r hr => by
      obtain ⟨j, hj⟩ := List.getElem?_of_mem hr
      have hjl : j < R.length := (List.getElem?_eq_some_iff.1 hj).1
      rw [hRg j hjl] at hj
      rw [← Option.some.inj hj]
      exact row_len hlen (by omega)
    have hTxt : ∀ j, ((R.take j).flatMap rowT).length ≤ 131328 := fun j => by
      rw [flat_len (n := 2 * w + 1) (fun r hr => by rw [rowT_len, hRw r (List.mem_of_mem_take hr)]), List.length_take]
      have : min j R.length * (2 * w + 1) ≤ 256 * 513 := Nat.mul_le_mul (by omega) (by omega)
      omega
    have hokR : ∀ r ∈ R, okP r := fun r hr x hx => by
      obtain ⟨j, hj⟩ := List.getElem?_of_mem hr
      have hjl : j < R.length := (List.getElem?_eq_some_iff.1 hj).1
      rw [hRg j hjl] at hj
      rw [← Option.some.inj hj] at hx
      exact hok x (List.mem_of_mem_drop (List.mem_of_mem_take hx))
    refine ⟨{j : Nat // j ≤ R.length}, fun j => ⟨46, tl ([(4, .ptr 1 0 0), (13, .sl 2 0 R.length), (14, I R.length), (15, I j.1)] ++ gst ((R.take j.1).flatMap rowT)), bst X0 ⟨1, R.map rowC⟩ ((R.take j.1).flatMap rowT), 4, ⟨[], some (.mp none)⟩⟩, fun j => R.length - j.1,
      ⟨⟨0, by omega⟩, Le.tl (Ls := []) [] ?_ ?_ ?_ ?_ trivial⟩, fun j => ?_⟩
    · simp -dsimp -implicitDefEqProofs (maxSteps := 1000000) only [go_sem, ↓reduceIte, Nat.reduceAdd, Nat.reduceSub, Nat.reduceMul, Nat.reduceLT, Nat.reduceLeDiff, Nat.reduceEqDiff, Nat.reduceBEq, Nat.reduceBNe, Int.reduceToNat, Int.reduceLT, Int.reduceLE, Int.reduceNeg, reduceCtorEq, Int.reduceEq, Int.reduceNe, List.take_zero, List.flatMap_nil, gst_nil, bst_nil]
    · simp -dsimp -implicitDefEqProofs (maxSteps := 1000000) only [go_sem, ↓reduceIte, Nat.reduceAdd, Nat.reduceSub, Nat.reduceMul, Nat.reduceLT, Nat.reduceLeDiff, Nat.reduceEqDiff, Nat.reduceBEq, Nat.reduceBNe, Int.reduceToNat, Int.reduceLT, Int.reduceLE, Int.reduceNeg, reduceCtorEq, Int.reduceEq, Int.reduceNe, List.take_zero, List.flatMap_nil, gst_nil, bst_nil, hX0]
      exact ⟨renL_F (by simp -dsimp -implicitDefEqProofs (maxSteps := 1000000) only [go_sem, ↓reduceIte, Nat.reduceAdd, Nat.reduceSub, Nat.reduceMul, Nat.reduceLT, Nat.reduceLeDiff, Nat.reduceEqDiff, Nat.reduceBEq, Nat.reduceBNe, Int.reduceToNat, Int.reduceLT, Int.reduceLE, Int.reduceNeg, reduceCtorEq, Int.reduceEq, Int.reduceNe]), renL_cl2 rfl (clRows _), renL_F (by simp -dsimp -implicitDefEqProofs (maxSteps := 1000000) only [go_sem, ↓reduceIte, Nat.reduceAdd, Nat.reduceSub, Nat.reduceMul, Nat.reduceLT, Nat.reduceLeDiff, Nat.reduceEqDiff, Nat.reduceBEq, Nat.reduceBNe, Int.reduceToNat, Int.reduceLT, Int.reduceLE, Int.reduceNeg, reduceCtorEq, Int.reduceEq, Int.reduceNe])⟩
    · simp [bst_nil]
    · simp [bst_nil, sg]
    obtain ⟨j, hj⟩ := j
    obtain ⟨T0, hT0⟩ : ∃ T0, T0 = (R.take j).flatMap rowT := ⟨_, rfl⟩
    simp only
    rw [← hT0]
    simp -dsimp -implicitDefEqProofs (maxSteps := 1000000) only [go_sem, ↓reduceIte, Nat.reduceAdd, Nat.reduceSub, Nat.reduceMul, Nat.reduceLT, Nat.reduceLeDiff, Nat.reduceEqDiff, Nat.reduceBEq, Nat.reduceBNe, Int.reduceToNat, Int.reduceLT, Int.reduceLE, Int.reduceNeg, reduceCtorEq, Int.reduceEq, Int.reduceNe, List.length_map, Int.natCast_nonneg, Int.toNat_natCast, List.getElem?_map, Nat.zero_add]
    refine ⟨fun hj' => ?_, fun hout => ?_⟩
    · have hjl : j < R.length := by omega
      obtain ⟨row, hrow⟩ : ∃ row, row = R.getD j [] := ⟨_, rfl⟩
      have gj : R[j]? = some row := by rw [hrow, List.getD, List.getElem?_eq_getElem hjl]; rfl
      have hrw : row.length = w := hRw row (List.mem_of_getElem? gj)
      have hT0l : T0.length ≤ 131328 := hT0 ▸ hTxt j
      have hokr : okP row := hokR row (List.mem_of_getElem? gj)
      have ej := wrA1 (a := j) (by omega)
      simp -dsimp -implicitDefEqProofs (maxSteps := 1000000) only [go_sem, ↓reduceIte, Nat.reduceAdd, Nat.reduceSub, Nat.reduceMul, Nat.reduceLT, Nat.reduceLeDiff, Nat.reduceEqDiff, Nat.reduceBEq, Nat.reduceBNe, Int.reduceToNat, Int.reduceLT, Int.reduceLE, Int.reduceNeg, reduceCtorEq, Int.reduceEq, Int.reduceNe, gj, hj']
      refine ⟨{i : Nat // i ≤ row.length}, fun i => ⟨46, tl ([(4, .ptr 1 0 0), (13, .sl 2 0 R.length), (14, I R.length), (15, I j), (19, .ro 1 (pxC row)), (20, I row.length), (21, I i.1)] ++ gst (T0 ++ (row.take i.1).flatMap pxT)), bst X0 ⟨1, R.map rowC⟩ (T0 ++ (row.take i.1).flatMap pxT), 4, ⟨[], some (.mp none)⟩⟩, fun i => row.length - i.1,
        ⟨⟨0, by omega⟩, ?_⟩, fun i => ?_⟩
      · simp only [List.take_zero, List.flatMap_nil, List.append_nil]
        simp only [List.cons_append, List.nil_append]
        by_cases hTT : T0 = []
        · rw [hTT, bst_nil, gst_nil]
          refine Le.tl (Ls := []) [] (by simp -dsimp -implicitDefEqProofs (maxSteps := 1000000) only [go_sem, ↓reduceIte, Nat.reduceAdd, Nat.reduceSub, Nat.reduceMul, Nat.reduceLT, Nat.reduceLeDiff, Nat.reduceEqDiff, Nat.reduceBEq, Nat.reduceBNe, Int.reduceToNat, Int.reduceLT, Int.reduceLE, Int.reduceNeg, reduceCtorEq, Int.reduceEq, Int.reduceNe, pxC_len]) ?_ (by simp) (by simp [sg]) trivial
          simp -dsimp -implicitDefEqProofs (maxSteps := 1000000) only [go_sem, ↓reduceIte, Nat.reduceAdd, Nat.reduceSub, Nat.reduceMul, Nat.reduceLT, Nat.reduceLeDiff, Nat.reduceEqDiff, Nat.reduceBEq, Nat.reduceBNe, Int.reduceToNat, Int.reduceLT, Int.reduceLE, Int.reduceNeg, reduceCtorEq, Int.reduceEq, Int.reduceNe]
          exact ⟨renL_F (by simp -dsimp -implicitDefEqProofs (maxSteps := 1000000) only [go_sem, ↓reduceIte, Nat.reduceAdd, Nat.reduceSub, Nat.reduceMul, Nat.reduceLT, Nat.reduceLeDiff, Nat.reduceEqDiff, Nat.reduceBEq, Nat.reduceBNe, Int.reduceToNat, Int.reduceLT, Int.reduceLE, Int.reduceNeg, reduceCtorEq, Int.reduceEq, Int.reduceNe]), renL_cl2 rfl (clRows _), renL_cl2 rfl hX0c⟩
        · rw [bst_cons _ _ hTT, gst_cons hTT]
          refine Le.tl (Ls := []) [] (by simp -dsimp -implicitDefEqProofs (maxSteps := 1000000) only [go_sem, ↓reduceIte, Nat.reduceAdd, Nat.reduceSub, Nat.reduceMul, Nat.reduceLT, Nat.reduceLeDiff, Nat.reduceEqDiff, Nat.reduceBEq, Nat.reduceBNe, Int.reduceToNat, Int.reduceLT, Int.reduceLE, Int.reduceNeg, reduceCtorEq, Int.reduceEq, Int.reduceNe, pxC_len]) ?_ (by simp) (by simp [sg]) trivial
          simp -dsimp -implicitDefEqProofs (maxSteps := 1000000) only [go_sem, ↓reduceIte, Nat.reduceAdd, Nat.reduceSub, Nat.reduceMul, Nat.reduceLT, Nat.reduceLeDiff, Nat.reduceEqDiff, Nat.reduceBEq, Nat.reduceBNe, Int.reduceToNat, Int.reduceLT, Int.reduceLE, Int.reduceNeg, reduceCtorEq, Int.reduceEq, Int.reduceNe]
          exact ⟨renL_F (by simp -dsimp -implicitDefEqProofs (maxSteps := 1000000) only [go_sem, ↓reduceIte, Nat.reduceAdd, Nat.reduceSub, Nat.reduceMul, Nat.reduceLT, Nat.reduceLeDiff, Nat.reduceEqDiff, Nat.reduceBEq, Nat.reduceBNe, Int.reduceToNat, Int.reduceLT, Int.reduceLE, Int.reduceNeg, reduceCtorEq, Int.reduceEq, Int.reduceNe]), renL_cl2 rfl (clRows _), renL_cl2 rfl hX0c, renL_cl2 rfl (clBy _)⟩
      obtain ⟨i, hi⟩ := i
      obtain ⟨T, hT⟩ : ∃ T, T = T0 ++ (row.take i).flatMap pxT := ⟨_, rfl⟩
      simp only
      rw [← hT]
      simp -dsimp -implicitDefEqProofs (maxSteps := 1000000) only [go_sem, ↓reduceIte, Nat.reduceAdd, Nat.reduceSub, Nat.reduceMul, Nat.reduceLT, Nat.reduceLeDiff, Nat.reduceEqDiff, Nat.reduceBEq, Nat.reduceBNe, Int.reduceToNat, Int.reduceLT, Int.reduceLE, Int.reduceNeg, reduceCtorEq, Int.reduceEq, Int.reduceNe, pxC_len, pxC_get, Int.natCast_nonneg, Int.toNat_natCast, Nat.zero_add]
      refine ⟨fun hi' => ?_, fun hout => ?_⟩
      · have hil : i < row.length := by omega
        obtain ⟨x, hx⟩ : ∃ x, x = row.getD i 0 := ⟨_, rfl⟩
        have gx : row[i]? = some x := by rw [hx, List.getD, List.getElem?_eq_getElem hil]; rfl
        have hTl : T.length ≤ 1073741820 := by
          rw [hT, List.length_append, flat_len (fun x _ => pxT_len x), List.length_take]
          omega
        have hxb := hokr x (List.mem_of_getElem? gx)
        have ei := wrA1 (a := i) (by omega)
        by_cases hx0 : x = 0
        · have hsd : ({ data := #[46, 46] } : ByteArray).data.toList = pxT x := by rw [hx0]; rfl
          simp -dsimp -implicitDefEqProofs (maxSteps := 1000000) only [go_sem, ↓reduceIte, Nat.reduceAdd, Nat.reduceSub, Nat.reduceMul, Nat.reduceLT, Nat.reduceLeDiff, Nat.reduceEqDiff, Nat.reduceBEq, Nat.reduceBNe, Int.reduceToNat, Int.reduceLT, Int.reduceLE, Int.reduceNeg, reduceCtorEq, Int.reduceEq, Int.reduceNe, gx, hx0]
          have e1 : T0 ++ (row.take (i + 1)).flatMap pxT = T ++ pxT x := by
            rw [hT, List.take_add_one, gx, List.flatMap_append, ← List.append_assoc]; simp
          have hne : T ++ pxT x ≠ [] := by simp [pxT_ne]
          refine AtFn.le ⟨46, tl ([(4, .ptr 1 0 0), (13, .sl 2 0 R.length), (14, I R.length), (15, I j), (19, .ro 1 (pxC row)), (20, I row.length), (21, I i)] ++ gst T), bst X0 ⟨1, R.map rowC⟩ T, 4, ⟨[], some (.mp none)⟩⟩ [.ptr 1 0 0, .v (.string ({ data := #[46, 46] }))] ?_ (by intro fo xs ts h; cases h; exact ⟨by simp -dsimp -implicitDefEqProofs (maxSteps := 1000000) only [go_sem, ↓reduceIte, Nat.reduceAdd, Nat.reduceSub, Nat.reduceMul, Nat.reduceLT, Nat.reduceLeDiff, Nat.reduceEqDiff, Nat.reduceBEq, Nat.reduceBNe, Int.reduceToNat, Int.reduceLT, Int.reduceLE, Int.reduceNeg, reduceCtorEq, Int.reduceEq, Int.reduceNe], by simp -dsimp -implicitDefEqProofs (maxSteps := 1000000) only [go_sem, ↓reduceIte, Nat.reduceAdd, Nat.reduceSub, Nat.reduceMul, Nat.reduceLT, Nat.reduceLeDiff, Nat.reduceEqDiff, Nat.reduceBEq, Nat.reduceBNe, Int.reduceToNat, Int.reduceLT, Int.reduceLE, Int.reduceNeg, reduceCtorEq, Int.reduceEq, Int.reduceNe]⟩) ?_
          · simp only [List.cons_append, List.nil_append]
            by_cases hTT : T = []
            · rw [hTT, bst_nil, gst_nil]
              refine Le.tl (Ls := []) [] (by simp -dsimp -implicitDefEqProofs (maxSteps := 1000000) only [go_sem, ↓reduceIte, Nat.reduceAdd, Nat.reduceSub, Nat.reduceMul, Nat.reduceLT, Nat.reduceLeDiff, Nat.reduceEqDiff, Nat.reduceBEq, Nat.reduceBNe, Int.reduceToNat, Int.reduceLT, Int.reduceLE, Int.reduceNeg, reduceCtorEq, Int.reduceEq, Int.reduceNe]) ?_ (by simp) (by simp [sg]) trivial
              simp -dsimp -implicitDefEqProofs (maxSteps := 1000000) only [go_sem, ↓reduceIte, Nat.reduceAdd, Nat.reduceSub, Nat.reduceMul, Nat.reduceLT, Nat.reduceLeDiff, Nat.reduceEqDiff, Nat.reduceBEq, Nat.reduceBNe, Int.reduceToNat, Int.reduceLT, Int.reduceLE, Int.reduceNeg, reduceCtorEq, Int.reduceEq, Int.reduceNe]
              exact ⟨renL_F (by simp -dsimp -implicitDefEqProofs (maxSteps := 1000000) only [go_sem, ↓reduceIte, Nat.reduceAdd, Nat.reduceSub, Nat.reduceMul, Nat.reduceLT, Nat.reduceLeDiff, Nat.reduceEqDiff, Nat.reduceBEq, Nat.reduceBNe, Int.reduceToNat, Int.reduceLT, Int.reduceLE, Int.reduceNeg, reduceCtorEq, Int.reduceEq, Int.reduceNe]), renL_cl2 rfl (clRows _), renL_cl2 rfl hX0c⟩
            · rw [bst_cons _ _ hTT, gst_cons hTT]
              refine Le.tl (Ls := []) [] (by simp -dsimp -implicitDefEqProofs (maxSteps := 1000000) only [go_sem, ↓reduceIte, Nat.reduceAdd, Nat.reduceSub, Nat.reduceMul, Nat.reduceLT, Nat.reduceLeDiff, Nat.reduceEqDiff, Nat.reduceBEq, Nat.reduceBNe, Int.reduceToNat, Int.reduceLT, Int.reduceLE, Int.reduceNeg, reduceCtorEq, Int.reduceEq, Int.reduceNe]) ?_ (by simp) (by simp [sg]) trivial
              simp -dsimp -implicitDefEqProofs (maxSteps := 1000000) only [go_sem, ↓reduceIte, Nat.reduceAdd, Nat.reduceSub, Nat.reduceMul, Nat.reduceLT, Nat.reduceLeDiff, Nat.reduceEqDiff, Nat.reduceBEq, Nat.reduceBNe, Int.reduceToNat, Int.reduceLT, Int.reduceLE, Int.reduceNeg, reduceCtorEq, Int.reduceEq, Int.reduceNe]
              exact ⟨renL_F (by simp -dsimp -implicitDefEqProofs (maxSteps := 1000000) only [go_sem, ↓reduceIte, Nat.reduceAdd, Nat.reduceSub, Nat.reduceMul, Nat.reduceLT, Nat.reduceLeDiff, Nat.reduceEqDiff, Nat.reduceBEq, Nat.reduceBNe, Int.reduceToNat, Int.reduceLT, Int.reduceLE, Int.reduceNeg, reduceCtorEq, Int.reduceEq, Int.reduceNe]), renL_cl2 rfl (clRows _), renL_cl2 rfl hX0c, renL_cl2 rfl (clBy _)⟩
          by_cases hTe : T = []
          · rw [hTe, bst_nil, gst_nil]
            refine ws64f _ _ _ (by rw [← size_len, hsd, pxT_len]; decide) (by rw [← size_len, hsd, pxT_len]; decide) (by simp -dsimp -implicitDefEqProofs (maxSteps := 1000000) only [go_sem, ↓reduceIte, Nat.reduceAdd, Nat.reduceSub, Nat.reduceMul, Nat.reduceLT, Nat.reduceLeDiff, Nat.reduceEqDiff, Nat.reduceBEq, Nat.reduceBNe, Int.reduceToNat, Int.reduceLT, Int.reduceLE, Int.reduceNeg, reduceCtorEq, Int.reduceEq, Int.reduceNe]) ?_
            rw [hsd]
            simp -dsimp -implicitDefEqProofs (maxSteps := 1000000) only [go_sem, ↓reduceIte, Nat.reduceAdd, Nat.reduceSub, Nat.reduceMul, Nat.reduceLT, Nat.reduceLeDiff, Nat.reduceEqDiff, Nat.reduceBEq, Nat.reduceBNe, Int.reduceToNat, Int.reduceLT, Int.reduceLE, Int.reduceNeg, reduceCtorEq, Int.reduceEq, Int.reduceNe]
            refine ⟨⟨i + 1, by omega⟩, by show row.length - (i + 1) < row.length - i; omega, ?_⟩
            simp only [e1]
            rw [bst_cons _ _ hne, gst_cons hne]
            refine Le.tl (Ls := []) [(3, 4)] (by simp -dsimp -implicitDefEqProofs (maxSteps := 1000000) only [go_sem, ↓reduceIte, Nat.reduceAdd, Nat.reduceSub, Nat.reduceMul, Nat.reduceLT, Nat.reduceLeDiff, Nat.reduceEqDiff, Nat.reduceBEq, Nat.reduceBNe, Int.reduceToNat, Int.reduceLT, Int.reduceLE, Int.reduceNeg, reduceCtorEq, Int.reduceEq, Int.reduceNe, ei]) ?_ (by simp) (by simp [sg]) trivial
            simp -dsimp -implicitDefEqProofs (maxSteps := 1000000) only [go_sem, ↓reduceIte, Nat.reduceAdd, Nat.reduceSub, Nat.reduceMul, Nat.reduceLT, Nat.reduceLeDiff, Nat.reduceEqDiff, Nat.reduceBEq, Nat.reduceBNe, Int.reduceToNat, Int.reduceLT, Int.reduceLE, Int.reduceNeg, reduceCtorEq, Int.reduceEq, Int.reduceNe]
            exact ⟨renL_F (by simp -dsimp -implicitDefEqProofs (maxSteps := 1000000) only [go_sem, ↓reduceIte, Nat.reduceAdd, Nat.reduceSub, Nat.reduceMul, Nat.reduceLT, Nat.reduceLeDiff, Nat.reduceEqDiff, Nat.reduceBEq, Nat.reduceBNe, Int.reduceToNat, Int.reduceLT, Int.reduceLE, Int.reduceNeg, reduceCtorEq, Int.reduceEq, Int.reduceNe, hTe, List.nil_append]), renL_cl2 rfl (clRows _), renL_cl2 rfl hX0c, renL_cl2 (by rw [hTe, List.nil_append]) (clBy _)⟩
          · rw [bst_cons _ _ hTe, gst_cons hTe]
            refine ws64u _ _ _ _ hTe ?_ (by simp -dsimp -implicitDefEqProofs (maxSteps := 1000000) only [go_sem, ↓reduceIte, Nat.reduceAdd, Nat.reduceSub, Nat.reduceMul, Nat.reduceLT, Nat.reduceLeDiff, Nat.reduceEqDiff, Nat.reduceBEq, Nat.reduceBNe, Int.reduceToNat, Int.reduceLT, Int.reduceLE, Int.reduceNeg, reduceCtorEq, Int.reduceEq, Int.reduceNe]) (by simp -dsimp -implicitDefEqProofs (maxSteps := 1000000) only [go_sem, ↓reduceIte, Nat.reduceAdd, Nat.reduceSub, Nat.reduceMul, Nat.reduceLT, Nat.reduceLeDiff, Nat.reduceEqDiff, Nat.reduceBEq, Nat.reduceBNe, Int.reduceToNat, Int.reduceLT, Int.reduceLE, Int.reduceNeg, reduceCtorEq, Int.reduceEq, Int.reduceNe]) ?_
            · rw [← size_len, hsd, pxT_len]; omega
            rw [hsd]
            simp -dsimp -implicitDefEqProofs (maxSteps := 1000000) only [go_sem, ↓reduceIte, Nat.reduceAdd, Nat.reduceSub, Nat.reduceMul, Nat.reduceLT, Nat.reduceLeDiff, Nat.reduceEqDiff, Nat.reduceBEq, Nat.reduceBNe, Int.reduceToNat, Int.reduceLT, Int.reduceLE, Int.reduceNeg, reduceCtorEq, Int.reduceEq, Int.reduceNe]
            refine ⟨⟨i + 1, by omega⟩, by show row.length - (i + 1) < row.length - i; omega, ?_⟩
            simp only [e1]
            rw [bst_cons _ _ hne, gst_cons hne]
            refine Le.tl (Ls := []) [(3, 4)] (by simp -dsimp -implicitDefEqProofs (maxSteps := 1000000) only [go_sem, ↓reduceIte, Nat.reduceAdd, Nat.reduceSub, Nat.reduceMul, Nat.reduceLT, Nat.reduceLeDiff, Nat.reduceEqDiff, Nat.reduceBEq, Nat.reduceBNe, Int.reduceToNat, Int.reduceLT, Int.reduceLE, Int.reduceNeg, reduceCtorEq, Int.reduceEq, Int.reduceNe, ei]) ?_ (by simp) (by simp [sg]) trivial
            simp -dsimp -implicitDefEqProofs (maxSteps := 1000000) only [go_sem, ↓reduceIte, Nat.reduceAdd, Nat.reduceSub, Nat.reduceMul, Nat.reduceLT, Nat.reduceLeDiff, Nat.reduceEqDiff, Nat.reduceBEq, Nat.reduceBNe, Int.reduceToNat, Int.reduceLT, Int.reduceLE, Int.reduceNeg, reduceCtorEq, Int.reduceEq, Int.reduceNe]
            exact ⟨renL_F (by simp -dsimp -implicitDefEqProofs (maxSteps := 1000000) only [go_sem, ↓reduceIte, Nat.reduceAdd, Nat.reduceSub, Nat.reduceMul, Nat.reduceLT, Nat.reduceLeDiff, Nat.reduceEqDiff, Nat.reduceBEq, Nat.reduceBNe, Int.reduceToNat, Int.reduceLT, Int.reduceLE, Int.reduceNeg, reduceCtorEq, Int.reduceEq, Int.reduceNe]), renL_cl2 rfl (clRows _), renL_cl2 rfl hX0c, renL_cl2 rfl (clBy _)⟩
        · simp -dsimp -implicitDefEqProofs (maxSteps := 1000000) only [go_sem, ↓reduceIte, Nat.reduceAdd, Nat.reduceSub, Nat.reduceMul, Nat.reduceLT, Nat.reduceLeDiff, Nat.reduceEqDiff, Nat.reduceBEq, Nat.reduceBNe, Int.reduceToNat, Int.reduceLT, Int.reduceLE, Int.reduceNeg, reduceCtorEq, Int.reduceEq, Int.reduceNe, gx, hx0]
          obtain ⟨⟨⟨q1, q2, q3⟩, ⟨q4, q5, q6⟩, q7⟩, hsd⟩ := hex_ok hxb hx0
          refine AtCode.draw 13 [([], []), ([0], []), ([], []), ([2], []), ([2, 3], []), ([0, 1, 2, 3, 4], []), ([], []), ([6], []), ([], []), ([8], []), ([8, 9], []), ([6, 7, 8, 9, 10], []), ([0, 1, 2, 3, 4, 5, 6, 7, 8, 9, 10, 11], []), ([0, 1, 2, 3, 4, 5, 6, 7, 8, 9, 10, 11, 12], [])] (by kernel_rfl) ?_
          simp -dsimp -implicitDefEqProofs (maxSteps := 1000000) only [go_sem, ↓reduceIte, Nat.reduceAdd, Nat.reduceSub, Nat.reduceMul, Nat.reduceLT, Nat.reduceLeDiff, Nat.reduceEqDiff, Nat.reduceBEq, Nat.reduceBNe, Int.reduceToNat, Int.reduceLT, Int.reduceLE, Int.reduceNeg, reduceCtorEq, Int.reduceEq, Int.reduceNe]
          refine ⟨q1, q2, q3, q4, q5, q6, q7, ?_⟩
          have e1 : T0 ++ (row.take (i + 1)).flatMap pxT = T ++ pxT x := by
            rw [hT, List.take_add_one, gx, List.flatMap_append, ← List.append_assoc]; simp
          have hne : T ++ pxT x ≠ [] := by simp [pxT_ne]
          refine AtFn.le ⟨46, tl ([(4, .ptr 1 0 0), (13, .sl 2 0 R.length), (14, I R.length), (15, I j), (19, .ro 1 (pxC row)), (20, I row.length), (21, I i), (40, .v (.string (hE x ++ hF x)))] ++ gst T), bst X0 ⟨1, R.map rowC⟩ T, 4, ⟨[], some (.mp none)⟩⟩ [.ptr 1 0 0, .v (.string (hE x ++ hF x))] ?_ (by intro fo xs ts h; cases h; exact ⟨by simp -dsimp -implicitDefEqProofs (maxSteps := 1000000) only [go_sem, ↓reduceIte, Nat.reduceAdd, Nat.reduceSub, Nat.reduceMul, Nat.reduceLT, Nat.reduceLeDiff, Nat.reduceEqDiff, Nat.reduceBEq, Nat.reduceBNe, Int.reduceToNat, Int.reduceLT, Int.reduceLE, Int.reduceNeg, reduceCtorEq, Int.reduceEq, Int.reduceNe], by simp -dsimp -implicitDefEqProofs (maxSteps := 1000000) only [go_sem, ↓reduceIte, Nat.reduceAdd, Nat.reduceSub, Nat.reduceMul, Nat.reduceLT, Nat.reduceLeDiff, Nat.reduceEqDiff, Nat.reduceBEq, Nat.reduceBNe, Int.reduceToNat, Int.reduceLT, Int.reduceLE, Int.reduceNeg, reduceCtorEq, Int.reduceEq, Int.reduceNe]⟩) ?_
          · simp only [List.cons_append, List.nil_append]
            by_cases hTT : T = []
            · rw [hTT, bst_nil, gst_nil]
              refine Le.tl (Ls := []) [] (by simp -dsimp -implicitDefEqProofs (maxSteps := 1000000) only [go_sem, ↓reduceIte, Nat.reduceAdd, Nat.reduceSub, Nat.reduceMul, Nat.reduceLT, Nat.reduceLeDiff, Nat.reduceEqDiff, Nat.reduceBEq, Nat.reduceBNe, Int.reduceToNat, Int.reduceLT, Int.reduceLE, Int.reduceNeg, reduceCtorEq, Int.reduceEq, Int.reduceNe]) ?_ (by simp) (by simp [sg]) trivial
              simp -dsimp -implicitDefEqProofs (maxSteps := 1000000) only [go_sem, ↓reduceIte, Nat.reduceAdd, Nat.reduceSub, Nat.reduceMul, Nat.reduceLT, Nat.reduceLeDiff, Nat.reduceEqDiff, Nat.reduceBEq, Nat.reduceBNe, Int.reduceToNat, Int.reduceLT, Int.reduceLE, Int.reduceNeg, reduceCtorEq, Int.reduceEq, Int.reduceNe]
              exact ⟨renL_F (by simp -dsimp -implicitDefEqProofs (maxSteps := 1000000) only [go_sem, ↓reduceIte, Nat.reduceAdd, Nat.reduceSub, Nat.reduceMul, Nat.reduceLT, Nat.reduceLeDiff, Nat.reduceEqDiff, Nat.reduceBEq, Nat.reduceBNe, Int.reduceToNat, Int.reduceLT, Int.reduceLE, Int.reduceNeg, reduceCtorEq, Int.reduceEq, Int.reduceNe]), renL_cl2 rfl (clRows _), renL_cl2 rfl hX0c⟩
            · rw [bst_cons _ _ hTT, gst_cons hTT]
              refine Le.tl (Ls := []) [] (by simp -dsimp -implicitDefEqProofs (maxSteps := 1000000) only [go_sem, ↓reduceIte, Nat.reduceAdd, Nat.reduceSub, Nat.reduceMul, Nat.reduceLT, Nat.reduceLeDiff, Nat.reduceEqDiff, Nat.reduceBEq, Nat.reduceBNe, Int.reduceToNat, Int.reduceLT, Int.reduceLE, Int.reduceNeg, reduceCtorEq, Int.reduceEq, Int.reduceNe]) ?_ (by simp) (by simp [sg]) trivial
              simp -dsimp -implicitDefEqProofs (maxSteps := 1000000) only [go_sem, ↓reduceIte, Nat.reduceAdd, Nat.reduceSub, Nat.reduceMul, Nat.reduceLT, Nat.reduceLeDiff, Nat.reduceEqDiff, Nat.reduceBEq, Nat.reduceBNe, Int.reduceToNat, Int.reduceLT, Int.reduceLE, Int.reduceNeg, reduceCtorEq, Int.reduceEq, Int.reduceNe]
              exact ⟨renL_F (by simp -dsimp -implicitDefEqProofs (maxSteps := 1000000) only [go_sem, ↓reduceIte, Nat.reduceAdd, Nat.reduceSub, Nat.reduceMul, Nat.reduceLT, Nat.reduceLeDiff, Nat.reduceEqDiff, Nat.reduceBEq, Nat.reduceBNe, Int.reduceToNat, Int.reduceLT, Int.reduceLE, Int.reduceNeg, reduceCtorEq, Int.reduceEq, Int.reduceNe]), renL_cl2 rfl (clRows _), renL_cl2 rfl hX0c, renL_cl2 rfl (clBy _)⟩
          by_cases hTe : T = []
          · rw [hTe, bst_nil, gst_nil]
            refine ws64f _ _ _ (by rw [← size_len, hsd, pxT_len]; decide) (by rw [← size_len, hsd, pxT_len]; decide) (by simp -dsimp -implicitDefEqProofs (maxSteps := 1000000) only [go_sem, ↓reduceIte, Nat.reduceAdd, Nat.reduceSub, Nat.reduceMul, Nat.reduceLT, Nat.reduceLeDiff, Nat.reduceEqDiff, Nat.reduceBEq, Nat.reduceBNe, Int.reduceToNat, Int.reduceLT, Int.reduceLE, Int.reduceNeg, reduceCtorEq, Int.reduceEq, Int.reduceNe]) ?_
            rw [hsd]
            simp -dsimp -implicitDefEqProofs (maxSteps := 1000000) only [go_sem, ↓reduceIte, Nat.reduceAdd, Nat.reduceSub, Nat.reduceMul, Nat.reduceLT, Nat.reduceLeDiff, Nat.reduceEqDiff, Nat.reduceBEq, Nat.reduceBNe, Int.reduceToNat, Int.reduceLT, Int.reduceLE, Int.reduceNeg, reduceCtorEq, Int.reduceEq, Int.reduceNe]
            refine ⟨⟨i + 1, by omega⟩, by show row.length - (i + 1) < row.length - i; omega, ?_⟩
            simp only [e1]
            rw [bst_cons _ _ hne, gst_cons hne]
            refine Le.tl (Ls := []) [(3, 4)] (by simp -dsimp -implicitDefEqProofs (maxSteps := 1000000) only [go_sem, ↓reduceIte, Nat.reduceAdd, Nat.reduceSub, Nat.reduceMul, Nat.reduceLT, Nat.reduceLeDiff, Nat.reduceEqDiff, Nat.reduceBEq, Nat.reduceBNe, Int.reduceToNat, Int.reduceLT, Int.reduceLE, Int.reduceNeg, reduceCtorEq, Int.reduceEq, Int.reduceNe, ei]) ?_ (by simp) (by simp [sg]) trivial
            simp -dsimp -implicitDefEqProofs (maxSteps := 1000000) only [go_sem, ↓reduceIte, Nat.reduceAdd, Nat.reduceSub, Nat.reduceMul, Nat.reduceLT, Nat.reduceLeDiff, Nat.reduceEqDiff, Nat.reduceBEq, Nat.reduceBNe, Int.reduceToNat, Int.reduceLT, Int.reduceLE, Int.reduceNeg, reduceCtorEq, Int.reduceEq, Int.reduceNe]
            exact ⟨renL_F (by simp -dsimp -implicitDefEqProofs (maxSteps := 1000000) only [go_sem, ↓reduceIte, Nat.reduceAdd, Nat.reduceSub, Nat.reduceMul, Nat.reduceLT, Nat.reduceLeDiff, Nat.reduceEqDiff, Nat.reduceBEq, Nat.reduceBNe, Int.reduceToNat, Int.reduceLT, Int.reduceLE, Int.reduceNeg, reduceCtorEq, Int.reduceEq, Int.reduceNe, hTe, List.nil_append]), renL_cl2 rfl (clRows _), renL_cl2 rfl hX0c, renL_cl2 (by rw [hTe, List.nil_append]) (clBy _)⟩
          · rw [bst_cons _ _ hTe, gst_cons hTe]
            refine ws64u _ _ _ _ hTe ?_ (by simp -dsimp -implicitDefEqProofs (maxSteps := 1000000) only [go_sem, ↓reduceIte, Nat.reduceAdd, Nat.reduceSub, Nat.reduceMul, Nat.reduceLT, Nat.reduceLeDiff, Nat.reduceEqDiff, Nat.reduceBEq, Nat.reduceBNe, Int.reduceToNat, Int.reduceLT, Int.reduceLE, Int.reduceNeg, reduceCtorEq, Int.reduceEq, Int.reduceNe]) (by simp -dsimp -implicitDefEqProofs (maxSteps := 1000000) only [go_sem, ↓reduceIte, Nat.reduceAdd, Nat.reduceSub, Nat.reduceMul, Nat.reduceLT, Nat.reduceLeDiff, Nat.reduceEqDiff, Nat.reduceBEq, Nat.reduceBNe, Int.reduceToNat, Int.reduceLT, Int.reduceLE, Int.reduceNeg, reduceCtorEq, Int.reduceEq, Int.reduceNe]) ?_
            · rw [← size_len, hsd, pxT_len]; omega
            rw [hsd]
            simp -dsimp -implicitDefEqProofs (maxSteps := 1000000) only [go_sem, ↓reduceIte, Nat.reduceAdd, Nat.reduceSub, Nat.reduceMul, Nat.reduceLT, Nat.reduceLeDiff, Nat.reduceEqDiff, Nat.reduceBEq, Nat.reduceBNe, Int.reduceToNat, Int.reduceLT, Int.reduceLE, Int.reduceNeg, reduceCtorEq, Int.reduceEq, Int.reduceNe]
            refine ⟨⟨i + 1, by omega⟩, by show row.length - (i + 1) < row.length - i; omega, ?_⟩
            simp only [e1]
            rw [bst_cons _ _ hne, gst_cons hne]
            refine Le.tl (Ls := []) [(3, 4)] (by simp -dsimp -implicitDefEqProofs (maxSteps := 1000000) only [go_sem, ↓reduceIte, Nat.reduceAdd, Nat.reduceSub, Nat.reduceMul, Nat.reduceLT, Nat.reduceLeDiff, Nat.reduceEqDiff, Nat.reduceBEq, Nat.reduceBNe, Int.reduceToNat, Int.reduceLT, Int.reduceLE, Int.reduceNeg, reduceCtorEq, Int.reduceEq, Int.reduceNe, ei]) ?_ (by simp) (by simp [sg]) trivial
            simp -dsimp -implicitDefEqProofs (maxSteps := 1000000) only [go_sem, ↓reduceIte, Nat.reduceAdd, Nat.reduceSub, Nat.reduceMul, Nat.reduceLT, Nat.reduceLeDiff, Nat.reduceEqDiff, Nat.reduceBEq, Nat.reduceBNe, Int.reduceToNat, Int.reduceLT, Int.reduceLE, Int.reduceNeg, reduceCtorEq, Int.reduceEq, Int.reduceNe]
            exact ⟨renL_F (by simp -dsimp -implicitDefEqProofs (maxSteps := 1000000) only [go_sem, ↓reduceIte, Nat.reduceAdd, Nat.reduceSub, Nat.reduceMul, Nat.reduceLT, Nat.reduceLeDiff, Nat.reduceEqDiff, Nat.reduceBEq, Nat.reduceBNe, Int.reduceToNat, Int.reduceLT, Int.reduceLE, Int.reduceNeg, reduceCtorEq, Int.reduceEq, Int.reduceNe]), renL_cl2 rfl (clRows _), renL_cl2 rfl hX0c, renL_cl2 rfl (clBy _)⟩
      · have hij : i = row.length := by omega
        have hTl2 : T.length = T0.length + row.length * 2 := by
          rw [hT, List.length_append, flat_len (fun x _ => pxT_len x), List.length_take, hij, Nat.min_self]
        have hTe : T ≠ [] := by
          intro e
          rw [e] at hTl2
          simp at hTl2
          omega
        have e1 : ((R.take (j + 1)).flatMap rowT) = T ++ [10] := by
          rw [List.take_add_one, gj, List.flatMap_append, ← hT0, hT, hij, List.take_length]
          simp [rowT]
        refine AtFn.le ⟨46, tl ([(4, .ptr 1 0 0), (13, .sl 2 0 R.length), (14, I R.length), (15, I j)] ++ gst T), bst X0 ⟨1, R.map rowC⟩ T, 4, ⟨[], some (.mp none)⟩⟩ [.ptr 1 0 0, U 10] ?_ (by intro fo xs ts h; cases h; exact ⟨by simp -dsimp -implicitDefEqProofs (maxSteps := 1000000) only [go_sem, ↓reduceIte, Nat.reduceAdd, Nat.reduceSub, Nat.reduceMul, Nat.reduceLT, Nat.reduceLeDiff, Nat.reduceEqDiff, Nat.reduceBEq, Nat.reduceBNe, Int.reduceToNat, Int.reduceLT, Int.reduceLE, Int.reduceNeg, reduceCtorEq, Int.reduceEq, Int.reduceNe], by simp -dsimp -implicitDefEqProofs (maxSteps := 1000000) only [go_sem, ↓reduceIte, Nat.reduceAdd, Nat.reduceSub, Nat.reduceMul, Nat.reduceLT, Nat.reduceLeDiff, Nat.reduceEqDiff, Nat.reduceBEq, Nat.reduceBNe, Int.reduceToNat, Int.reduceLT, Int.reduceLE, Int.reduceNeg, reduceCtorEq, Int.reduceEq, Int.reduceNe]⟩) ?_
        · simp only [List.cons_append, List.nil_append]
          by_cases hTT : T = []
          · rw [hTT, bst_nil, gst_nil]
            refine Le.tl (Ls := []) [] (by simp -dsimp -implicitDefEqProofs (maxSteps := 1000000) only [go_sem, ↓reduceIte, Nat.reduceAdd, Nat.reduceSub, Nat.reduceMul, Nat.reduceLT, Nat.reduceLeDiff, Nat.reduceEqDiff, Nat.reduceBEq, Nat.reduceBNe, Int.reduceToNat, Int.reduceLT, Int.reduceLE, Int.reduceNeg, reduceCtorEq, Int.reduceEq, Int.reduceNe]) ?_ (by simp) (by simp [sg]) trivial
            simp -dsimp -implicitDefEqProofs (maxSteps := 1000000) only [go_sem, ↓reduceIte, Nat.reduceAdd, Nat.reduceSub, Nat.reduceMul, Nat.reduceLT, Nat.reduceLeDiff, Nat.reduceEqDiff, Nat.reduceBEq, Nat.reduceBNe, Int.reduceToNat, Int.reduceLT, Int.reduceLE, Int.reduceNeg, reduceCtorEq, Int.reduceEq, Int.reduceNe]
            exact ⟨renL_F (by simp -dsimp -implicitDefEqProofs (maxSteps := 1000000) only [go_sem, ↓reduceIte, Nat.reduceAdd, Nat.reduceSub, Nat.reduceMul, Nat.reduceLT, Nat.reduceLeDiff, Nat.reduceEqDiff, Nat.reduceBEq, Nat.reduceBNe, Int.reduceToNat, Int.reduceLT, Int.reduceLE, Int.reduceNeg, reduceCtorEq, Int.reduceEq, Int.reduceNe]), renL_cl2 rfl (clRows _), renL_cl2 rfl hX0c⟩
          · rw [bst_cons _ _ hTT, gst_cons hTT]
            refine Le.tl (Ls := []) [] (by simp -dsimp -implicitDefEqProofs (maxSteps := 1000000) only [go_sem, ↓reduceIte, Nat.reduceAdd, Nat.reduceSub, Nat.reduceMul, Nat.reduceLT, Nat.reduceLeDiff, Nat.reduceEqDiff, Nat.reduceBEq, Nat.reduceBNe, Int.reduceToNat, Int.reduceLT, Int.reduceLE, Int.reduceNeg, reduceCtorEq, Int.reduceEq, Int.reduceNe]) ?_ (by simp) (by simp [sg]) trivial
            simp -dsimp -implicitDefEqProofs (maxSteps := 1000000) only [go_sem, ↓reduceIte, Nat.reduceAdd, Nat.reduceSub, Nat.reduceMul, Nat.reduceLT, Nat.reduceLeDiff, Nat.reduceEqDiff, Nat.reduceBEq, Nat.reduceBNe, Int.reduceToNat, Int.reduceLT, Int.reduceLE, Int.reduceNeg, reduceCtorEq, Int.reduceEq, Int.reduceNe]
            exact ⟨renL_F (by simp -dsimp -implicitDefEqProofs (maxSteps := 1000000) only [go_sem, ↓reduceIte, Nat.reduceAdd, Nat.reduceSub, Nat.reduceMul, Nat.reduceLT, Nat.reduceLeDiff, Nat.reduceEqDiff, Nat.reduceBEq, Nat.reduceBNe, Int.reduceToNat, Int.reduceLT, Int.reduceLE, Int.reduceNeg, reduceCtorEq, Int.reduceEq, Int.reduceNe]), renL_cl2 rfl (clRows _), renL_cl2 rfl hX0c, renL_cl2 rfl (clBy _)⟩
        rw [bst_cons _ _ hTe, gst_cons hTe]
        refine wb65 _ _ _ hTe (by omega) (by simp -dsimp -implicitDefEqProofs (maxSteps := 1000000) only [go_sem, ↓reduceIte, Nat.reduceAdd, Nat.reduceSub, Nat.reduceMul, Nat.reduceLT, Nat.reduceLeDiff, Nat.reduceEqDiff, Nat.reduceBEq, Nat.reduceBNe, Int.reduceToNat, Int.reduceLT, Int.reduceLE, Int.reduceNeg, reduceCtorEq, Int.reduceEq, Int.reduceNe]) (by simp -dsimp -implicitDefEqProofs (maxSteps := 1000000) only [go_sem, ↓reduceIte, Nat.reduceAdd, Nat.reduceSub, Nat.reduceMul, Nat.reduceLT, Nat.reduceLeDiff, Nat.reduceEqDiff, Nat.reduceBEq, Nat.reduceBNe, Int.reduceToNat, Int.reduceLT, Int.reduceLE, Int.reduceNeg, reduceCtorEq, Int.reduceEq, Int.reduceNe]) ?_
        simp -dsimp -implicitDefEqProofs (maxSteps := 1000000) only [go_sem, ↓reduceIte, Nat.reduceAdd, Nat.reduceSub, Nat.reduceMul, Nat.reduceLT, Nat.reduceLeDiff, Nat.reduceEqDiff, Nat.reduceBEq, Nat.reduceBNe, Int.reduceToNat, Int.reduceLT, Int.reduceLE, Int.reduceNeg, reduceCtorEq, Int.reduceEq, Int.reduceNe]
        refine ⟨⟨j + 1, by omega⟩, by show R.length - (j + 1) < R.length - j; omega, ?_⟩
        have hne : T ++ [10] ≠ [] := by simp
        simp only [e1]
        rw [bst_cons _ _ hne, gst_cons hne]
        refine Le.tl (Ls := []) [(3, 5)] (by simp -dsimp -implicitDefEqProofs (maxSteps := 1000000) only [go_sem, ↓reduceIte, Nat.reduceAdd, Nat.reduceSub, Nat.reduceMul, Nat.reduceLT, Nat.reduceLeDiff, Nat.reduceEqDiff, Nat.reduceBEq, Nat.reduceBNe, Int.reduceToNat, Int.reduceLT, Int.reduceLE, Int.reduceNeg, reduceCtorEq, Int.reduceEq, Int.reduceNe, ej]) ?_ (by simp) (by simp [sg]) trivial
        simp -dsimp -implicitDefEqProofs (maxSteps := 1000000) only [go_sem, ↓reduceIte, Nat.reduceAdd, Nat.reduceSub, Nat.reduceMul, Nat.reduceLT, Nat.reduceLeDiff, Nat.reduceEqDiff, Nat.reduceBEq, Nat.reduceBNe, Int.reduceToNat, Int.reduceLT, Int.reduceLE, Int.reduceNeg, reduceCtorEq, Int.reduceEq, Int.reduceNe]
        exact ⟨renL_F (by simp -dsimp -implicitDefEqProofs (maxSteps := 1000000) only [go_sem, ↓reduceIte, Nat.reduceAdd, Nat.reduceSub, Nat.reduceMul, Nat.reduceLT, Nat.reduceLeDiff, Nat.reduceEqDiff, Nat.reduceBEq, Nat.reduceBNe, Int.reduceToNat, Int.reduceLT, Int.reduceLE, Int.reduceNeg, reduceCtorEq, Int.reduceEq, Int.reduceNe]), renL_cl2 rfl (clRows _), renL_cl2 rfl hX0c, renL_cl2 rfl (clBy _)⟩
    · have hjR : j = R.length := by omega
      have hTe : T0 ≠ [] := by
        intro e
        have h0 := congrArg List.length e
        rw [hT0, hjR, List.take_length, flat_len (n := 2 * w + 1) (fun r hr => by rw [rowT_len, hRw r hr]), hRh, List.length_nil, Nat.mul_add, Nat.mul_one] at h0
        omega
      have hT0R : T0 = R.flatMap rowT := by rw [hT0, hjR, List.take_length]
      refine AtFn.le ⟨46, tl ([(4, .ptr 1 0 0)] ++ gst T0), bst X0 ⟨1, R.map rowC⟩ T0, 4, ⟨[], some (.mp none)⟩⟩ [.ptr 1 0 0] ?_ (by intro fo xs ts h; cases h; exact ⟨by simp -dsimp -implicitDefEqProofs (maxSteps := 1000000) only [go_sem, ↓reduceIte, Nat.reduceAdd, Nat.reduceSub, Nat.reduceMul, Nat.reduceLT, Nat.reduceLeDiff, Nat.reduceEqDiff, Nat.reduceBEq, Nat.reduceBNe, Int.reduceToNat, Int.reduceLT, Int.reduceLE, Int.reduceNeg, reduceCtorEq, Int.reduceEq, Int.reduceNe], by simp -dsimp -implicitDefEqProofs (maxSteps := 1000000) only [go_sem, ↓reduceIte, Nat.reduceAdd, Nat.reduceSub, Nat.reduceMul, Nat.reduceLT, Nat.reduceLeDiff, Nat.reduceEqDiff, Nat.reduceBEq, Nat.reduceBNe, Int.reduceToNat, Int.reduceLT, Int.reduceLE, Int.reduceNeg, reduceCtorEq, Int.reduceEq, Int.reduceNe]⟩) ?_
      · simp only [List.cons_append, List.nil_append]
        by_cases hTT : T0 = []
        · rw [hTT, bst_nil, gst_nil]
          refine Le.tl (Ls := []) [] (by simp -dsimp -implicitDefEqProofs (maxSteps := 1000000) only [go_sem, ↓reduceIte, Nat.reduceAdd, Nat.reduceSub, Nat.reduceMul, Nat.reduceLT, Nat.reduceLeDiff, Nat.reduceEqDiff, Nat.reduceBEq, Nat.reduceBNe, Int.reduceToNat, Int.reduceLT, Int.reduceLE, Int.reduceNeg, reduceCtorEq, Int.reduceEq, Int.reduceNe]) ?_ (by simp) (by simp [sg]) trivial
          simp -dsimp -implicitDefEqProofs (maxSteps := 1000000) only [go_sem, ↓reduceIte, Nat.reduceAdd, Nat.reduceSub, Nat.reduceMul, Nat.reduceLT, Nat.reduceLeDiff, Nat.reduceEqDiff, Nat.reduceBEq, Nat.reduceBNe, Int.reduceToNat, Int.reduceLT, Int.reduceLE, Int.reduceNeg, reduceCtorEq, Int.reduceEq, Int.reduceNe]
          exact ⟨renL_F (by simp -dsimp -implicitDefEqProofs (maxSteps := 1000000) only [go_sem, ↓reduceIte, Nat.reduceAdd, Nat.reduceSub, Nat.reduceMul, Nat.reduceLT, Nat.reduceLeDiff, Nat.reduceEqDiff, Nat.reduceBEq, Nat.reduceBNe, Int.reduceToNat, Int.reduceLT, Int.reduceLE, Int.reduceNeg, reduceCtorEq, Int.reduceEq, Int.reduceNe]), renL_cl2 rfl (clRows _), renL_cl2 rfl hX0c⟩
        · rw [bst_cons _ _ hTT, gst_cons hTT]
          refine Le.tl (Ls := []) [] (by simp -dsimp -implicitDefEqProofs (maxSteps := 1000000) only [go_sem, ↓reduceIte, Nat.reduceAdd, Nat.reduceSub, Nat.reduceMul, Nat.reduceLT, Nat.reduceLeDiff, Nat.reduceEqDiff, Nat.reduceBEq, Nat.reduceBNe, Int.reduceToNat, Int.reduceLT, Int.reduceLE, Int.reduceNeg, reduceCtorEq, Int.reduceEq, Int.reduceNe]) ?_ (by simp) (by simp [sg]) trivial
          simp -dsimp -implicitDefEqProofs (maxSteps := 1000000) only [go_sem, ↓reduceIte, Nat.reduceAdd, Nat.reduceSub, Nat.reduceMul, Nat.reduceLT, Nat.reduceLeDiff, Nat.reduceEqDiff, Nat.reduceBEq, Nat.reduceBNe, Int.reduceToNat, Int.reduceLT, Int.reduceLE, Int.reduceNeg, reduceCtorEq, Int.reduceEq, Int.reduceNe]
          exact ⟨renL_F (by simp -dsimp -implicitDefEqProofs (maxSteps := 1000000) only [go_sem, ↓reduceIte, Nat.reduceAdd, Nat.reduceSub, Nat.reduceMul, Nat.reduceLT, Nat.reduceLeDiff, Nat.reduceEqDiff, Nat.reduceBEq, Nat.reduceBNe, Int.reduceToNat, Int.reduceLT, Int.reduceLE, Int.reduceNeg, reduceCtorEq, Int.reduceEq, Int.reduceNe]), renL_cl2 rfl (clRows _), renL_cl2 rfl hX0c, renL_cl2 rfl (clBy _)⟩
      rw [bst_cons _ _ hTe, gst_cons hTe]
      refine str66 _ _ _ hTe (by have := hTxt j; rw [← hT0] at this; omega) (by simp -dsimp -implicitDefEqProofs (maxSteps := 1000000) only [go_sem, ↓reduceIte, Nat.reduceAdd, Nat.reduceSub, Nat.reduceMul, Nat.reduceLT, Nat.reduceLeDiff, Nat.reduceEqDiff, Nat.reduceBEq, Nat.reduceBNe, Int.reduceToNat, Int.reduceLT, Int.reduceLE, Int.reduceNeg, reduceCtorEq, Int.reduceEq, Int.reduceNe]) (by simp -dsimp -implicitDefEqProofs (maxSteps := 1000000) only [go_sem, ↓reduceIte, Nat.reduceAdd, Nat.reduceSub, Nat.reduceMul, Nat.reduceLT, Nat.reduceLeDiff, Nat.reduceEqDiff, Nat.reduceBEq, Nat.reduceBNe, Int.reduceToNat, Int.reduceLT, Int.reduceLE, Int.reduceNeg, reduceCtorEq, Int.reduceEq, Int.reduceNe]) ?_
      simp -dsimp -implicitDefEqProofs (maxSteps := 1000000) only [go_sem, ↓reduceIte, Nat.reduceAdd, Nat.reduceSub, Nat.reduceMul, Nat.reduceLT, Nat.reduceLeDiff, Nat.reduceEqDiff, Nat.reduceBEq, Nat.reduceBNe, Int.reduceToNat, Int.reduceLT, Int.reduceLE, Int.reduceNeg, reduceCtorEq, Int.reduceEq, Int.reduceNe, hT0R]
  · have hc' : vaB r = false := by simpa using hc
    rw [if_neg hc]
    obtain ⟨w, h, p⟩ := r
    refine PFun.introM 400 mixed Tryd.func17 (by kernel_rfl) rfl (by first | exact .v _ | (simp [Cl_v, Cl_t, Cl_g, Cl_fn, Cl_rp, Cl_ro]; done) | (simp [Cl_v, Cl_t, Cl_g, Cl_fn, Cl_rp, Cl_ro, or_imp, forall_and]; done) | (split <;> simp [Cl_v, Cl_t, Cl_g, Cl_fn, Cl_rp, Cl_ro])) (Nat.le_of_ble_eq_true rfl) ?_; rw [Tryd.ntmps17, Tryd.results17]
    simp -dsimp -implicitDefEqProofs (maxSteps := 1000000) only [go_sem, ↓reduceIte, Nat.reduceAdd, Nat.reduceSub, Nat.reduceMul, Nat.reduceLT, Nat.reduceLeDiff, Nat.reduceEqDiff, Nat.reduceBEq, Nat.reduceBNe, Int.reduceToNat, Int.reduceLT, Int.reduceLE, Int.reduceNeg, reduceCtorEq, Int.reduceEq, Int.reduceNe]
    refine AtFn.pure0 hv ?_
    simp -dsimp -implicitDefEqProofs (maxSteps := 1000000) only [go_sem, ↓reduceIte, Nat.reduceAdd, Nat.reduceSub, Nat.reduceMul, Nat.reduceLT, Nat.reduceLeDiff, Nat.reduceEqDiff, Nat.reduceBEq, Nat.reduceBNe, Int.reduceToNat, Int.reduceLT, Int.reduceLE, Int.reduceNeg, reduceCtorEq, Int.reduceEq, Int.reduceNe, hc']
end

section
def splitA : List UInt8 → List (List UInt8)
  | [] => [[]]
  | c :: l => if c = 10 then [10] :: splitA l else match splitA l with | [] => [[c]] | p :: ps => (c :: p) :: ps
theorem splitA_ne (l : List UInt8) : splitA l ≠ [] := by
  cases l with
  | nil => simp [splitA]
  | cons c l => unfold splitA; split; (· simp); split <;> simp
theorem splitA_none : ∀ {l : List UInt8}, (10 : UInt8) ∉ l → splitA l = [l]
  | [], _ => rfl
  | c :: l, h => by
    simp only [List.mem_cons, not_or] at h
    unfold splitA
    rw [if_neg (fun e => h.1 e.symm), splitA_none h.2]
theorem splitA_some : ∀ {u : List UInt8} (v : List UInt8), (10 : UInt8) ∉ u → splitA (u ++ 10 :: v) = (u ++ [10]) :: splitA v
  | [], v, _ => by
    show splitA (10 :: v) = _
    rw [splitA, if_pos rfl]; rfl
  | c :: u, v, h => by
    simp only [List.mem_cons, not_or] at h
    show splitA (c :: (u ++ 10 :: v)) = _
    rw [splitA, if_neg (fun e => h.1 e.symm), splitA_some v h.2]
    rfl
theorem splitA_len : ∀ (l : List UInt8), (splitA l).length = l.count 10 + 1
  | [] => rfl
  | c :: l => by
    have ih := splitA_len l
    unfold splitA
    split
    · rename_i h; subst h; simp [ih]
    · rename_i h
      rw [List.count_cons_of_ne (by exact h)]
      split
      · rename_i e; rw [e] at ih; simp at ih
      · rename_i p ps e; rw [e] at ih; simpa using ih
/-- The first newline. -/
theorem ixB_ge (c : UInt8) : ∀ l : List UInt8, -1 ≤ Lib.indexByte l c
  | [] => Int.le_refl _
  | b :: l => by
    have := ixB_ge c l
    unfold Lib.indexByte
    split
    · omega
    · split <;> omega
theorem ixB_none : ∀ {l : List UInt8} {c : UInt8}, Lib.indexByte l c < 0 → c ∉ l
  | [], _, _ => by simp
  | b :: l, c, h => by
    have hge := ixB_ge c l
    by_cases hb : b = c
    · subst hb; simp [Lib.indexByte] at h
    · unfold Lib.indexByte at h
      rw [if_neg (by simpa using hb)] at h
      by_cases he : Lib.indexByte l c = -1
      · have := ixB_none (l := l) (c := c) (by omega)
        simp only [List.mem_cons, not_or]
        exact ⟨fun e => hb e.symm, this⟩
      · rw [if_neg (by simpa using he)] at h; omega
theorem ixB_some : ∀ {l : List UInt8} {c : UInt8}, 0 ≤ Lib.indexByte l c → ∃ u v, l = u ++ c :: v ∧ c ∉ u ∧ Lib.indexByte l c = u.length
  | [], _, h => by simp [Lib.indexByte] at h
  | b :: l, c, h => by
    by_cases hb : b = c
    · subst hb
      exact ⟨[], l, rfl, by simp, by simp [Lib.indexByte]⟩
    · unfold Lib.indexByte at h ⊢
      rw [if_neg (by simpa using hb)] at h ⊢
      by_cases he : Lib.indexByte l c = -1
      · rw [if_pos (by simpa using he)] at h; omega
      · rw [if_neg (by simpa using he)] at h ⊢
        have := ixB_ge c l
        obtain ⟨u, v, rfl, h2, h3⟩ := ixB_some (l := l) (c := c) (by omega)
        exact ⟨b :: u, v, rfl, by simp [h2]; exact fun e => hb e.symm, by rw [h3]; simp⟩
def trimN (l : List UInt8) : List UInt8 := if l.getLast? = some 10 then l.dropLast else l
/-- What a hexadecimal digit means. -/
def ixD (c : UInt8) : Int := Lib.indexByte [48, 49, 50, 51, 52, 53, 54, 55, 56, 57, 97, 98, 99, 100, 101, 102] c
def inkP : List UInt8 → Int × Bool
  | [a, b] => if a = 46 ∧ b = 46 then (0, true) else if ixD a < 0 ∨ ixD b < 0 then (0, false) else (16 * ixD a + ixD b, true)
  | [a] => if ixD a < 0 then (0, false) else (ixD a, false)
  | _ => (0, false)
theorem ixD_bd (c : UInt8) : -1 ≤ ixD c ∧ ixD c ≤ 15 := by
  have : ∀ n < 256, -1 ≤ ixD (UInt8.ofNat n) ∧ ixD (UInt8.ofNat n) ≤ 15 := by decide +kernel
  have h := this c.toNat c.toNat_lt
  simpa using h
theorem inkP_bd {l : List UInt8} : 0 ≤ (inkP l).1 ∧ (inkP l).1 ≤ 255 := by
  unfold inkP
  split
  · rename_i a b
    have h1 := ixD_bd a
    have h2 := ixD_bd b
    split
    · simp
    · split
      · simp
      · simp only; omega
  · rename_i a
    have h1 := ixD_bd a
    split
    · simp
    · simp only; omega
  · simp
def goPairs : List (List UInt8) → List Int → Option (List Int)
  | [], p => some p
  | c :: cs, p => if (inkP c).2 then goPairs cs (p ++ [(inkP c).1]) else none
def goLines : List (List UInt8) → Int → List Int → Option (Int × List Int)
  | [], w, p => some (w, p)
  | l :: ls, w, p => match goPairs (chunkL 2 (trimN l)) p with
    | none => none
    | some p' => goLines ls (if w = 0 then (p'.length : Int) else w) p'
theorem chunkL_map {α β : Type} (f : α → β) (n : Nat) (l : List α) : chunkL n (l.map f) = (chunkL n l).map (fun c => c.map f) := by
  unfold chunkL
  rw [List.length_map, List.map_map]
  refine List.map_congr_left fun i _ => ?_
  simp [List.map_take, List.map_drop]
end

section
set_option maxRecDepth 20000
theorem ba_loop (s : ByteArray) : ∀ (k i : Nat) (r : List UInt8), s.size - i = k → ByteArray.toList.loop s i r = r.reverse ++ s.data.toList.drop i
  | 0, i, r, h => by
    rw [ByteArray.toList.loop, if_neg (by omega), List.drop_eq_nil_of_le (by rw [Array.length_toList]; show s.size ≤ i; omega), List.append_nil]
  | k + 1, i, r, h => by
    have hi : i < s.size := by omega
    rw [ByteArray.toList.loop, if_pos hi, ba_loop s k (i + 1) _ (by omega)]
    have hi2 : i < s.data.toList.length := by rw [Array.length_toList]; exact hi
    rw [List.drop_eq_getElem_cons hi2, List.reverse_cons, List.append_assoc]
    have : s.get! i = s.data.toList[i] := by
      show s.data[i]! = _
      rw [getElem!_pos s.data i hi]; simp
    rw [this]; rfl
theorem ba_toList (s : ByteArray) : s.toList = s.data.toList := by
  unfold ByteArray.toList
  rw [ba_loop s _ 0 [] rfl]; simp
theorem ext_str (l : List UInt8) (a b : Nat) : (⟨l.toArray⟩ : ByteArray).extract a b = ⟨((l.take b).drop a).toArray⟩ := by
  apply ByteArray.ext
  simp [ByteArray.data_extract]
  rw [List.drop_take]
theorem size_str (l : List UInt8) : (⟨l.toArray⟩ : ByteArray).size = l.length := by
  show l.toArray.size = _
  simp
theorem get_str (l : List UInt8) (i : Nat) : (⟨l.toArray⟩ : ByteArray)[i]? = l[i]? := by
  by_cases h : i < l.length
  · rw [List.getElem?_eq_getElem h]
    have h2 : i < (⟨l.toArray⟩ : ByteArray).size := by rw [size_str]; exact h
    rw [getElem?_pos (⟨l.toArray⟩ : ByteArray) i h2]
    rfl
  · have h2 : ¬ i < (⟨l.toArray⟩ : ByteArray).size := by rw [size_str]; exact h
    rw [getElem?_neg (⟨l.toArray⟩ : ByteArray) i h2, List.getElem?_eq_none (by omega)]
theorem ib111 (l : List UInt8) (c : Int) : PFun Tryd.prog 111 [Str l, U c] (I (Lib.indexByte l c.toNat.toUInt8)) := by
  refine PFun.intro 400 mixed Tryd.func111 (by kernel_rfl) rfl (by first | exact .v _ | (simp [Cl_v, Cl_t, Cl_g, Cl_fn, Cl_rp, Cl_ro]; done) | (simp [Cl_v, Cl_t, Cl_g, Cl_fn, Cl_rp, Cl_ro, or_imp, forall_and]; done) | (split <;> simp [Cl_v, Cl_t, Cl_g, Cl_fn, Cl_rp, Cl_ro])) (Nat.le_of_ble_eq_true rfl) ?_; rw [Tryd.ntmps111, Tryd.results111]
  simp -dsimp -implicitDefEqProofs (maxSteps := 1000000) only [go_sem, ↓reduceIte, Nat.reduceAdd, Nat.reduceSub, Nat.reduceMul, Nat.reduceLT, Nat.reduceLeDiff, Nat.reduceEqDiff, Nat.reduceBEq, Nat.reduceBNe, Int.reduceToNat, Int.reduceLT, Int.reduceLE, Int.reduceNeg, reduceCtorEq, Int.reduceEq, Int.reduceNe]
  refine AtFn.ext (e := Extern.BytealgIndexByte.indexByte) (us := [.string ⟨l.toArray⟩, .int .u8 c]) Tryd.func114 (by kernel_rfl) (by kernel_rfl) (by kernel_rfl) (by kernel_rfl) rfl (fun w => Lib.run_indexByteString _ c w) ?_
  simp -dsimp -implicitDefEqProofs (maxSteps := 1000000) only [go_sem, ↓reduceIte, Nat.reduceAdd, Nat.reduceSub, Nat.reduceMul, Nat.reduceLT, Nat.reduceLeDiff, Nat.reduceEqDiff, Nat.reduceBEq, Nat.reduceBNe, Int.reduceToNat, Int.reduceLT, Int.reduceLE, Int.reduceNeg, reduceCtorEq, Int.reduceEq, Int.reduceNe]
theorem ib99 (l : List UInt8) (c : Int) : PFun Tryd.prog 99 [Str l, U c] (I (Lib.indexByte l c.toNat.toUInt8)) := by
  refine PFun.intro 400 mixed Tryd.func99 (by kernel_rfl) rfl (by first | exact .v _ | (simp [Cl_v, Cl_t, Cl_g, Cl_fn, Cl_rp, Cl_ro]; done) | (simp [Cl_v, Cl_t, Cl_g, Cl_fn, Cl_rp, Cl_ro, or_imp, forall_and]; done) | (split <;> simp [Cl_v, Cl_t, Cl_g, Cl_fn, Cl_rp, Cl_ro])) (Nat.le_of_ble_eq_true rfl) ?_; rw [Tryd.ntmps99, Tryd.results99]
  simp -dsimp -implicitDefEqProofs (maxSteps := 1000000) only [go_sem, ↓reduceIte, Nat.reduceAdd, Nat.reduceSub, Nat.reduceMul, Nat.reduceLT, Nat.reduceLeDiff, Nat.reduceEqDiff, Nat.reduceBEq, Nat.reduceBNe, Int.reduceToNat, Int.reduceLT, Int.reduceLE, Int.reduceNeg, reduceCtorEq, Int.reduceEq, Int.reduceNe]
  refine AtFn.pure0 (ib111 l c) ?_
  simp -dsimp -implicitDefEqProofs (maxSteps := 1000000) only [go_sem, ↓reduceIte, Nat.reduceAdd, Nat.reduceSub, Nat.reduceMul, Nat.reduceLT, Nat.reduceLeDiff, Nat.reduceEqDiff, Nat.reduceBEq, Nat.reduceBNe, Int.reduceToNat, Int.reduceLT, Int.reduceLE, Int.reduceNeg, reduceCtorEq, Int.reduceEq, Int.reduceNe]
theorem str_eq (a b : List UInt8) : (((⟨a.toArray⟩ : ByteArray).toList == (⟨b.toArray⟩ : ByteArray).toList) = true) ↔ a = b := by
  rw [ba_toList, ba_toList, beq_iff_eq]
theorem str_eqF (a b : List UInt8) : (((⟨a.toArray⟩ : ByteArray).toList == (⟨b.toArray⟩ : ByteArray).toList) = false) ↔ a ≠ b := by
  rw [← Bool.not_eq_true, str_eq]
theorem ix110 (l : List UInt8) : PFun Tryd.prog 110 [Str l, Str [10]] (I (Lib.indexByte l 10)) := by
  by_cases hl : [10] = l
  · have hb : (({ data := #[10] } : ByteArray).toList == (⟨l.toArray⟩ : ByteArray).toList) = true := (str_eq [10] l).2 hl
    refine PFun.intro 400 mixed Tryd.func110 (by kernel_rfl) rfl (by first | exact .v _ | (simp [Cl_v, Cl_t, Cl_g, Cl_fn, Cl_rp, Cl_ro]; done) | (simp [Cl_v, Cl_t, Cl_g, Cl_fn, Cl_rp, Cl_ro, or_imp, forall_and]; done) | (split <;> simp [Cl_v, Cl_t, Cl_g, Cl_fn, Cl_rp, Cl_ro])) (Nat.le_of_ble_eq_true rfl) ?_; rw [Tryd.ntmps110, Tryd.results110]
    simp -dsimp -implicitDefEqProofs (maxSteps := 1000000) only [go_sem, ↓reduceIte, Nat.reduceAdd, Nat.reduceSub, Nat.reduceMul, Nat.reduceLT, Nat.reduceLeDiff, Nat.reduceEqDiff, Nat.reduceBEq, Nat.reduceBNe, Int.reduceToNat, Int.reduceLT, Int.reduceLE, Int.reduceNeg, reduceCtorEq, Int.reduceEq, Int.reduceNe, size_str, get_str, hb]
    rw [← hl]; rfl
  · have hb : (({ data := #[10] } : ByteArray).toList == (⟨l.toArray⟩ : ByteArray).toList) = false := (str_eqF [10] l).2 hl
    refine PFun.intro 400 mixed Tryd.func110 (by kernel_rfl) rfl (by first | exact .v _ | (simp [Cl_v, Cl_t, Cl_g, Cl_fn, Cl_rp, Cl_ro]; done) | (simp [Cl_v, Cl_t, Cl_g, Cl_fn, Cl_rp, Cl_ro, or_imp, forall_and]; done) | (split <;> simp [Cl_v, Cl_t, Cl_g, Cl_fn, Cl_rp, Cl_ro])) (Nat.le_of_ble_eq_true rfl) ?_; rw [Tryd.ntmps110, Tryd.results110]
    simp -dsimp -implicitDefEqProofs (maxSteps := 1000000) only [go_sem, ↓reduceIte, Nat.reduceAdd, Nat.reduceSub, Nat.reduceMul, Nat.reduceLT, Nat.reduceLeDiff, Nat.reduceEqDiff, Nat.reduceBEq, Nat.reduceBNe, Int.reduceToNat, Int.reduceLT, Int.reduceLE, Int.reduceNeg, reduceCtorEq, Int.reduceEq, Int.reduceNe, size_str, get_str, hb]
    refine AtFn.pure0 (ib111 l ((UInt8.toNat 10 : Nat) : Int)) ?_
    simp -dsimp -implicitDefEqProofs (maxSteps := 1000000) only [go_sem, ↓reduceIte, Nat.reduceAdd, Nat.reduceSub, Nat.reduceMul, Nat.reduceLT, Nat.reduceLeDiff, Nat.reduceEqDiff, Nat.reduceBEq, Nat.reduceBNe, Int.reduceToNat, Int.reduceLT, Int.reduceLE, Int.reduceNeg, reduceCtorEq, Int.reduceEq, Int.reduceNe]
    rfl
theorem ix97 (l : List UInt8) : PFun Tryd.prog 97 [Str l, Str [10]] (I (Lib.indexByte l 10)) := by
  refine PFun.intro 400 mixed Tryd.func97 (by kernel_rfl) rfl (by first | exact .v _ | (simp [Cl_v, Cl_t, Cl_g, Cl_fn, Cl_rp, Cl_ro]; done) | (simp [Cl_v, Cl_t, Cl_g, Cl_fn, Cl_rp, Cl_ro, or_imp, forall_and]; done) | (split <;> simp [Cl_v, Cl_t, Cl_g, Cl_fn, Cl_rp, Cl_ro])) (Nat.le_of_ble_eq_true rfl) ?_; rw [Tryd.ntmps97, Tryd.results97]
  simp -dsimp -implicitDefEqProofs (maxSteps := 1000000) only [go_sem, ↓reduceIte, Nat.reduceAdd, Nat.reduceSub, Nat.reduceMul, Nat.reduceLT, Nat.reduceLeDiff, Nat.reduceEqDiff, Nat.reduceBEq, Nat.reduceBNe, Int.reduceToNat, Int.reduceLT, Int.reduceLE, Int.reduceNeg, reduceCtorEq, Int.reduceEq, Int.reduceNe]
  refine AtFn.pure0 (ix110 l) ?_
  simp -dsimp -implicitDefEqProofs (maxSteps := 1000000) only [go_sem, ↓reduceIte, Nat.reduceAdd, Nat.reduceSub, Nat.reduceMul, Nat.reduceLT, Nat.reduceLeDiff, Nat.reduceEqDiff, Nat.reduceBEq, Nat.reduceBNe, Int.reduceToNat, Int.reduceLT, Int.reduceLE, Int.reduceNeg, reduceCtorEq, Int.reduceEq, Int.reduceNe]
theorem cnt96 (l : List UInt8) : PFun Tryd.prog 96 [Str l, Str [10]] (I (Lib.countByte l 10)) := by
  refine PFun.intro 400 mixed Tryd.func96 (by kernel_rfl) rfl (by first | exact .v _ | (simp [Cl_v, Cl_t, Cl_g, Cl_fn, Cl_rp, Cl_ro]; done) | (simp [Cl_v, Cl_t, Cl_g, Cl_fn, Cl_rp, Cl_ro, or_imp, forall_and]; done) | (split <;> simp [Cl_v, Cl_t, Cl_g, Cl_fn, Cl_rp, Cl_ro])) (Nat.le_of_ble_eq_true rfl) ?_; rw [Tryd.ntmps96, Tryd.results96]
  simp -dsimp -implicitDefEqProofs (maxSteps := 1000000) only [go_sem, ↓reduceIte, Nat.reduceAdd, Nat.reduceSub, Nat.reduceMul, Nat.reduceLT, Nat.reduceLeDiff, Nat.reduceEqDiff, Nat.reduceBEq, Nat.reduceBNe, Int.reduceToNat, Int.reduceLT, Int.reduceLE, Int.reduceNeg, reduceCtorEq, Int.reduceEq, Int.reduceNe, size_str, get_str]
  refine AtFn.ext (e := Extern.BytealgCount.count) (us := [.string ⟨l.toArray⟩, .int .u8 10]) Tryd.func109 (by kernel_rfl) (by kernel_rfl) (by kernel_rfl) (by kernel_rfl) rfl (fun w => Lib.run_countString _ 10 w) ?_
  simp -dsimp -implicitDefEqProofs (maxSteps := 1000000) only [go_sem, ↓reduceIte, Nat.reduceAdd, Nat.reduceSub, Nat.reduceMul, Nat.reduceLT, Nat.reduceLeDiff, Nat.reduceEqDiff, Nat.reduceBEq, Nat.reduceBNe, Int.reduceToNat, Int.reduceLT, Int.reduceLE, Int.reduceNeg, reduceCtorEq, Int.reduceEq, Int.reduceNe]
  rfl
theorem last_drop {l : List UInt8} (h0 : l ≠ []) : l.drop (l.length - 1) = [10] ↔ l.getLast? = some 10 := by
  have hpos : 1 ≤ l.length := List.length_pos_iff.2 h0
  have hlt : l.length - 1 < l.length := by omega
  rw [List.getLast?_eq_getElem?, List.getElem?_eq_getElem hlt, List.drop_eq_getElem_cons hlt, List.drop_eq_nil_of_le (by omega)]
  simp
theorem suf98 (l : List UInt8) (hl : l.length ≤ 1073741824) : PFun Tryd.prog 98 [Str l, Str [10]] (Bo (decide (l.getLast? = some 10))) := by
  by_cases h0 : l = []
  · subst h0
    refine PFun.intro 400 mixed Tryd.func98 (by kernel_rfl) rfl (by first | exact .v _ | (simp [Cl_v, Cl_t, Cl_g, Cl_fn, Cl_rp, Cl_ro]; done) | (simp [Cl_v, Cl_t, Cl_g, Cl_fn, Cl_rp, Cl_ro, or_imp, forall_and]; done) | (split <;> simp [Cl_v, Cl_t, Cl_g, Cl_fn, Cl_rp, Cl_ro])) (Nat.le_of_ble_eq_true rfl) ?_; rw [Tryd.ntmps98, Tryd.results98]
    simp -dsimp -implicitDefEqProofs (maxSteps := 1000000) only [go_sem, ↓reduceIte, Nat.reduceAdd, Nat.reduceSub, Nat.reduceMul, Nat.reduceLT, Nat.reduceLeDiff, Nat.reduceEqDiff, Nat.reduceBEq, Nat.reduceBNe, Int.reduceToNat, Int.reduceLT, Int.reduceLE, Int.reduceNeg, reduceCtorEq, Int.reduceEq, Int.reduceNe, size_str]
    rfl
  · have hpos : 1 ≤ l.length := List.length_pos_iff.2 h0
    have e1 := wrS1 (a := l.length) hpos (by omega)
    have c1 : (1 : Int) ≤ (l.length : Int) := by omega
    have c2 : l.length - 1 ≤ l.length := by omega
    have hb : (({ data := (List.drop (l.length - 1) (List.take l.length l)).toArray } : ByteArray).toList == ({ data := #[10] } : ByteArray).toList) = decide (l.getLast? = some 10) := by
      rw [Bool.eq_iff_iff, decide_eq_true_eq, ← last_drop h0, List.take_length]
      exact str_eq _ [10]
    refine PFun.intro 400 mixed Tryd.func98 (by kernel_rfl) rfl (by first | exact .v _ | (simp [Cl_v, Cl_t, Cl_g, Cl_fn, Cl_rp, Cl_ro]; done) | (simp [Cl_v, Cl_t, Cl_g, Cl_fn, Cl_rp, Cl_ro, or_imp, forall_and]; done) | (split <;> simp [Cl_v, Cl_t, Cl_g, Cl_fn, Cl_rp, Cl_ro])) (Nat.le_of_ble_eq_true rfl) ?_; rw [Tryd.ntmps98, Tryd.results98]
    simp -dsimp -implicitDefEqProofs (maxSteps := 1000000) only [go_sem, ↓reduceIte, Nat.reduceAdd, Nat.reduceSub, Nat.reduceMul, Nat.reduceLT, Nat.reduceLeDiff, Nat.reduceEqDiff, Nat.reduceBEq, Nat.reduceBNe, Int.reduceToNat, Int.reduceLT, Int.reduceLE, Int.reduceNeg, reduceCtorEq, Int.reduceEq, Int.reduceNe, size_str, e1, c1, c2, ext_str, Int.natCast_nonneg, Int.toNat_natCast, Nat.le_refl, hb]
theorem trim57 (l : List UInt8) (hl : l.length ≤ 1073741824) : PFun Tryd.prog 57 [Str l, Str [10]] (Str (trimN l)) := by
  have h87 : PFun Tryd.prog 87 [Str l, Str [10]] (Str (trimN l)) := by
    unfold trimN
    by_cases h : l.getLast? = some 10
    · rw [if_pos h]
      have h0 : l ≠ [] := by intro e; subst e; simp at h
      have hpos : 1 ≤ l.length := List.length_pos_iff.2 h0
      have e1 := wrS1 (a := l.length) hpos (by omega)
      have c2 : l.length - 1 ≤ l.length := by omega
      refine PFun.intro 400 mixed Tryd.func87 (by kernel_rfl) rfl (by first | exact .v _ | (simp [Cl_v, Cl_t, Cl_g, Cl_fn, Cl_rp, Cl_ro]; done) | (simp [Cl_v, Cl_t, Cl_g, Cl_fn, Cl_rp, Cl_ro, or_imp, forall_and]; done) | (split <;> simp [Cl_v, Cl_t, Cl_g, Cl_fn, Cl_rp, Cl_ro])) (Nat.le_of_ble_eq_true rfl) ?_; rw [Tryd.ntmps87, Tryd.results87]
      simp -dsimp -implicitDefEqProofs (maxSteps := 1000000) only [go_sem, ↓reduceIte, Nat.reduceAdd, Nat.reduceSub, Nat.reduceMul, Nat.reduceLT, Nat.reduceLeDiff, Nat.reduceEqDiff, Nat.reduceBEq, Nat.reduceBNe, Int.reduceToNat, Int.reduceLT, Int.reduceLE, Int.reduceNeg, reduceCtorEq, Int.reduceEq, Int.reduceNe]
      refine AtFn.pure0 (suf98 l hl) ?_
      simp -dsimp -implicitDefEqProofs (maxSteps := 1000000) only [go_sem, ↓reduceIte, Nat.reduceAdd, Nat.reduceSub, Nat.reduceMul, Nat.reduceLT, Nat.reduceLeDiff, Nat.reduceEqDiff, Nat.reduceBEq, Nat.reduceBNe, Int.reduceToNat, Int.reduceLT, Int.reduceLE, Int.reduceNeg, reduceCtorEq, Int.reduceEq, Int.reduceNe, h, size_str, e1, c2, ext_str, Int.natCast_nonneg, Int.toNat_natCast, Nat.le_refl, Nat.zero_le, List.dropLast_eq_take]
    · rw [if_neg h]
      refine PFun.intro 400 mixed Tryd.func87 (by kernel_rfl) rfl (by first | exact .v _ | (simp [Cl_v, Cl_t, Cl_g, Cl_fn, Cl_rp, Cl_ro]; done) | (simp [Cl_v, Cl_t, Cl_g, Cl_fn, Cl_rp, Cl_ro, or_imp, forall_and]; done) | (split <;> simp [Cl_v, Cl_t, Cl_g, Cl_fn, Cl_rp, Cl_ro])) (Nat.le_of_ble_eq_true rfl) ?_; rw [Tryd.ntmps87, Tryd.results87]
      simp -dsimp -implicitDefEqProofs (maxSteps := 1000000) only [go_sem, ↓reduceIte, Nat.reduceAdd, Nat.reduceSub, Nat.reduceMul, Nat.reduceLT, Nat.reduceLeDiff, Nat.reduceEqDiff, Nat.reduceBEq, Nat.reduceBNe, Int.reduceToNat, Int.reduceLT, Int.reduceLE, Int.reduceNeg, reduceCtorEq, Int.reduceEq, Int.reduceNe]
      refine AtFn.pure0 (suf98 l hl) ?_
      simp -dsimp -implicitDefEqProofs (maxSteps := 1000000) only [go_sem, ↓reduceIte, Nat.reduceAdd, Nat.reduceSub, Nat.reduceMul, Nat.reduceLT, Nat.reduceLeDiff, Nat.reduceEqDiff, Nat.reduceBEq, Nat.reduceBNe, Int.reduceToNat, Int.reduceLT, Int.reduceLE, Int.reduceNeg, reduceCtorEq, Int.reduceEq, Int.reduceNe, h]
  refine PFun.intro 400 mixed Tryd.func57 (by kernel_rfl) rfl (by first | exact .v _ | (simp [Cl_v, Cl_t, Cl_g, Cl_fn, Cl_rp, Cl_ro]; done) | (simp [Cl_v, Cl_t, Cl_g, Cl_fn, Cl_rp, Cl_ro, or_imp, forall_and]; done) | (split <;> simp [Cl_v, Cl_t, Cl_g, Cl_fn, Cl_rp, Cl_ro])) (Nat.le_of_ble_eq_true rfl) ?_; rw [Tryd.ntmps57, Tryd.results57]
  simp -dsimp -implicitDefEqProofs (maxSteps := 1000000) only [go_sem, ↓reduceIte, Nat.reduceAdd, Nat.reduceSub, Nat.reduceMul, Nat.reduceLT, Nat.reduceLeDiff, Nat.reduceEqDiff, Nat.reduceBEq, Nat.reduceBNe, Int.reduceToNat, Int.reduceLT, Int.reduceLE, Int.reduceNeg, reduceCtorEq, Int.reduceEq, Int.reduceNe]
  refine AtFn.pure0 h87 ?_
  simp -dsimp -implicitDefEqProofs (maxSteps := 1000000) only [go_sem, ↓reduceIte, Nat.reduceAdd, Nat.reduceSub, Nat.reduceMul, Nat.reduceLT, Nat.reduceLeDiff, Nat.reduceEqDiff, Nat.reduceBEq, Nat.reduceBNe, Int.reduceToNat, Int.reduceLT, Int.reduceLE, Int.reduceNeg, reduceCtorEq, Int.reduceEq, Int.reduceNe]
/-- The split's state: what is done, what is left. -/
abbrev strC (l : List UInt8) : List AV := [Str l]
theorem clStr (L : List (List UInt8)) : ∀ c ∈ L.map strC, ∀ s ∈ c, Cl s := fun c hc s hs => by
  obtain ⟨r, _, rfl⟩ := List.mem_map.1 hc
  rw [List.mem_singleton.1 hs]; exact .v _
theorem rep_get (D : List (List UInt8)) (k : Nat) : (List.map strC (D ++ List.replicate (k + 1) []))[D.length]? = some (strC []) := by
  rw [List.getElem?_map, List.getElem?_append_right (Nat.le_refl _), Nat.sub_self, List.getElem?_replicate, if_pos (by omega)]; rfl
theorem rep_set (D : List (List UInt8)) (k : Nat) (x : List UInt8) : (List.map strC (D ++ List.replicate (k + 1) [])).set D.length [Str x] = List.map strC (D ++ [x] ++ List.replicate k []) := by
  show (List.map strC (D ++ List.replicate (k + 1) [])).set D.length (strC x) = _
  rw [← List.map_set (f := strC)]
  congr 1
  rw [List.set_append_right _ _ (Nat.le_refl _), Nat.sub_self, List.replicate_succ, List.set_cons_zero]
  simp
theorem split85 (l : List UInt8) (hl : l.length ≤ 1073741824) : RFun Tryd.prog 85 [Str l, Str [10], I 1, I (-1)] 1 ((splitA l).map strC) (.sl 0 0 (splitA l).length) := by
  have hcnt : Lib.countByte l 10 = l.count 10 := rfl
  have hcl : l.count 10 ≤ l.length := List.count_le_length
  have e1 := wrA1 (a := l.count 10) (by omega)
  have e2 := wrA1 (a := l.length) (by omega)
  have e3 : min ((l.count 10 + 1 : Nat) : Int) ((l.length + 1 : Nat) : Int) = ((l.count 10 + 1 : Nat) : Int) := by omega
  have e4 : ((l.count 10 + 1 : Nat) : Int) ≤ 274877906944 := by omega
  have e5 := wrS1 (a := l.count 10 + 1) (by omega) (by omega)
  have hne : (({ data := #[10] } : ByteArray).toList == ({ data := #[] } : ByteArray).toList) = false := (str_eqF [10] []).2 (by simp)
  obtain ⟨c, hc⟩ : ∃ c, c = l.count 10 := ⟨_, rfl⟩
  rw [← hc] at hcnt hcl e1 e3 e4 e5
  rw [Nat.add_sub_cancel] at e5
  have hcc := cnt96 l
  rw [hcnt] at hcc
  refine RFun.intro 400 0 mixed Tryd.func85 (by kernel_rfl) rfl (clStr _) (Nat.le_of_ble_eq_true rfl) ?_; rw [Tryd.ntmps85, Tryd.results85]
  simp -dsimp -implicitDefEqProofs (maxSteps := 1000000) only [go_sem, ↓reduceIte, Nat.reduceAdd, Nat.reduceSub, Nat.reduceMul, Nat.reduceLT, Nat.reduceLeDiff, Nat.reduceEqDiff, Nat.reduceBEq, Nat.reduceBNe, Int.reduceToNat, Int.reduceLT, Int.reduceLE, Int.reduceNeg, reduceCtorEq, Int.reduceEq, Int.reduceNe, hne]
  refine AtFn.pure0 hcc ?_
  simp -dsimp -implicitDefEqProofs (maxSteps := 1000000) only [go_sem, ↓reduceIte, Nat.reduceAdd, Nat.reduceSub, Nat.reduceMul, Nat.reduceLT, Nat.reduceLeDiff, Nat.reduceEqDiff, Nat.reduceBEq, Nat.reduceBNe, Int.reduceToNat, Int.reduceLT, Int.reduceLE, Int.reduceNeg, reduceCtorEq, Int.reduceEq, Int.reduceNe, e1, e2, e3, e4, e5, size_str, Int.natCast_nonneg, Int.le_refl, Int.toNat_natCast, List.length_replicate]
  refine ⟨{p : List (List UInt8) × List UInt8 // splitA l = p.1 ++ splitA p.2 ∧ p.1.length + p.2.count 10 = c ∧ p.2.length ≤ l.length}, fun p => ⟨66, tl [(0, Str p.1.2), (1, Str [10]), (2, I 1), (3, I c), (9, .sl 0 0 (c + 1)), (10, I p.1.1.length)], [(0, ⟨1, (p.1.1 ++ List.replicate (c + 1 - p.1.1.length) []).map strC⟩)], 1, .nil⟩, fun p => p.1.2.length,
    ⟨⟨([], l), by simp, by simp [hc], Nat.le_refl _⟩, Le.tl (Ls := []) (y := none) [] ?_ ?_ (by simp) (by simp [sg]) trivial⟩, fun p => ?_⟩
  · simp -dsimp -implicitDefEqProofs (maxSteps := 1000000) only [go_sem, ↓reduceIte, Nat.reduceAdd, Nat.reduceSub, Nat.reduceMul, Nat.reduceLT, Nat.reduceLeDiff, Nat.reduceEqDiff, Nat.reduceBEq, Nat.reduceBNe, Int.reduceToNat, Int.reduceLT, Int.reduceLE, Int.reduceNeg, reduceCtorEq, Int.reduceEq, Int.reduceNe]
  · simp -dsimp -implicitDefEqProofs (maxSteps := 1000000) only [go_sem, ↓reduceIte, Nat.reduceAdd, Nat.reduceSub, Nat.reduceMul, Nat.reduceLT, Nat.reduceLeDiff, Nat.reduceEqDiff, Nat.reduceBEq, Nat.reduceBNe, Int.reduceToNat, Int.reduceLT, Int.reduceLE, Int.reduceNeg, reduceCtorEq, Int.reduceEq, Int.reduceNe]
    exact renL_cl2 (by rw [List.map_replicate]; rfl) (clStr _)
  obtain ⟨⟨D, v⟩, h1, h2, h3⟩ := p
  simp only at h1 h2 h3
  simp -dsimp -implicitDefEqProofs (maxSteps := 1000000) only [go_sem, ↓reduceIte, Nat.reduceAdd, Nat.reduceSub, Nat.reduceMul, Nat.reduceLT, Nat.reduceLeDiff, Nat.reduceEqDiff, Nat.reduceBEq, Nat.reduceBNe, Int.reduceToNat, Int.reduceLT, Int.reduceLE, Int.reduceNeg, reduceCtorEq, Int.reduceEq, Int.reduceNe]
  refine ⟨fun hi => ?_, fun hout => ?_⟩
  · refine AtFn.pure0 (ix97 v) ?_
    have hv0 : (10 : UInt8) ∈ v := by
      rw [← List.count_pos_iff]; omega
    have hge : 0 ≤ Lib.indexByte v 10 := by
      rcases Int.lt_or_le (Lib.indexByte v 10) 0 with h | h
      · exact absurd hv0 (ixB_none h)
      · exact h
    obtain ⟨u, x, hux, hu, hix⟩ := ixB_some hge
    rw [hix]
    have f1 : ¬ (u.length : Int) < 0 := by omega
    have hvl : v.length = u.length + 1 + x.length := by rw [hux]; simp; omega
    have w1 := wrA1 (a := u.length) (by omega)
    have t1 : List.drop 0 (List.take (u.length + 1) v) = u ++ [10] := by
      rw [hux, List.drop_zero, List.take_append, List.take_of_length_le (by omega), show u.length + 1 - u.length = 1 by omega]; rfl
    have t2 : List.drop (u.length + 1) (List.take v.length v) = x := by
      rw [List.take_length, hux, ← List.drop_drop, List.drop_left]; rfl
    have c1 : u.length + 1 ≤ v.length := by omega
    have hcx : x.count 10 + 1 = v.count 10 := by
      rw [hux, List.count_append, List.count_cons_self, List.count_eq_zero_of_not_mem hu]; omega
    obtain ⟨k, hk⟩ : ∃ k, c + 1 - D.length = k + 1 := ⟨c - D.length, by omega⟩
    have g1 := rep_get D k
    have c2 : ((D.length : Nat) : Int) < ((c + 1 : Nat) : Int) := by omega
    have w2 := wrA1 (a := D.length) (by omega)
    rw [hk]
    simp -dsimp -implicitDefEqProofs (maxSteps := 1000000) only [go_sem, ↓reduceIte, Nat.reduceAdd, Nat.reduceSub, Nat.reduceMul, Nat.reduceLT, Nat.reduceLeDiff, Nat.reduceEqDiff, Nat.reduceBEq, Nat.reduceBNe, Int.reduceToNat, Int.reduceLT, Int.reduceLE, Int.reduceNeg, reduceCtorEq, Int.reduceEq, Int.reduceNe, f1, w1, w2, ext_str, size_str, t1, t2, c1, c2, Int.natCast_nonneg, Int.toNat_natCast, Nat.zero_le, Nat.zero_add, g1, Nat.le_refl]
    refine ⟨⟨(D ++ [u ++ [10]], x), by rw [h1, hux, splitA_some _ hu]; simp, by simp; omega, by simp only; omega⟩, by show x.length < v.length; omega, Le.tl (Ls := []) (y := none) [] ?_ ?_ (by simp) (by simp [sg]) trivial⟩
    · simp -dsimp -implicitDefEqProofs (maxSteps := 1000000) only [go_sem, ↓reduceIte, Nat.reduceAdd, Nat.reduceSub, Nat.reduceMul, Nat.reduceLT, Nat.reduceLeDiff, Nat.reduceEqDiff, Nat.reduceBEq, Nat.reduceBNe, Int.reduceToNat, Int.reduceLT, Int.reduceLE, Int.reduceNeg, reduceCtorEq, Int.reduceEq, Int.reduceNe, List.length_append]
    · simp -dsimp -implicitDefEqProofs (maxSteps := 1000000) only [go_sem, ↓reduceIte, Nat.reduceAdd, Nat.reduceSub, Nat.reduceMul, Nat.reduceLT, Nat.reduceLeDiff, Nat.reduceEqDiff, Nat.reduceBEq, Nat.reduceBNe, Int.reduceToNat, Int.reduceLT, Int.reduceLE, Int.reduceNeg, reduceCtorEq, Int.reduceEq, Int.reduceNe]
      refine renL_cl2 ?_ (clStr _)
      rw [rep_set, List.length_append, List.length_singleton, show c + 1 - (D.length + 1) = k by omega]
  · have hDc : D.length = c := by omega
    have hv0 : v.count 10 = 0 := by omega
    have hvn : (10 : UInt8) ∉ v := by
      intro h; have := List.count_pos_iff.2 h; omega
    have hfin : splitA l = D ++ [v] := by rw [h1, splitA_none hvn]
    have g1 := rep_get D 0
    have c2 : ((D.length : Nat) : Int) < ((c + 1 : Nat) : Int) := by omega
    have w2 := wrA1 (a := D.length) (by omega)
    have c3 : D.length + 1 ≤ c + 1 := by omega
    rw [show c + 1 - D.length = 0 + 1 by omega]
    simp -dsimp -implicitDefEqProofs (maxSteps := 1000000) only [go_sem, ↓reduceIte, Nat.reduceAdd, Nat.reduceSub, Nat.reduceMul, Nat.reduceLT, Nat.reduceLeDiff, Nat.reduceEqDiff, Nat.reduceBEq, Nat.reduceBNe, Int.reduceToNat, Int.reduceLT, Int.reduceLE, Int.reduceNeg, reduceCtorEq, Int.reduceEq, Int.reduceNe, w2, c2, c3, Int.natCast_nonneg, Int.toNat_natCast, Nat.zero_le, Nat.zero_add, g1, rep_set, List.length_map, List.length_append, List.length_replicate]
    exact ⟨by rw [hfin]; simp, by rw [hfin]; simp⟩
theorem split54 (l : List UInt8) (hl : l.length ≤ 1073741824) : NFun Tryd.prog 54 [Str l, Str [10]] 1 ((splitA l).map strC) := by
  have h85 : NFun Tryd.prog 85 [Str l, Str [10], I 1, I (-1)] 1 ((splitA l).map strC) := by rw [NFun, List.length_map]; exact split85 l hl
  have hh : RFun Tryd.prog 54 [Str l, Str [10]] 1 ((splitA l).map strC) (.sl 0 0 ((splitA l).map strC).length) := by
    refine RFun.intro 400 0 mixed Tryd.func54 (by kernel_rfl) rfl (clStr _) (Nat.le_of_ble_eq_true rfl) ?_; rw [Tryd.ntmps54, Tryd.results54]
    simp -dsimp -implicitDefEqProofs (maxSteps := 1000000) only [go_sem, ↓reduceIte, Nat.reduceAdd, Nat.reduceSub, Nat.reduceMul, Nat.reduceLT, Nat.reduceLeDiff, Nat.reduceEqDiff, Nat.reduceBEq, Nat.reduceBNe, Int.reduceToNat, Int.reduceLT, Int.reduceLE, Int.reduceNeg, reduceCtorEq, Int.reduceEq, Int.reduceNe]
    refine AtFn.new h85 ?_
    simp -dsimp -implicitDefEqProofs (maxSteps := 1000000) only [go_sem, ↓reduceIte, Nat.reduceAdd, Nat.reduceSub, Nat.reduceMul, Nat.reduceLT, Nat.reduceLeDiff, Nat.reduceEqDiff, Nat.reduceBEq, Nat.reduceBNe, Int.reduceToNat, Int.reduceLT, Int.reduceLE, Int.reduceNeg, reduceCtorEq, Int.reduceEq, Int.reduceNe]
    rfl
  exact hh
theorem reverse55 (l : List (List UInt8)) (hl0 : l ≠ []) (hl : l.length ≤ 4294967296) : MFun Tryd.prog 55 [.sl 0 0 l.length] [(0, ⟨1, l.map strC⟩)] 1 none [0] (.t []) [(0, ⟨1, l.reverse.map strC⟩)] 1 none := by
  have hlp : 1 ≤ l.length := by cases l with | nil => exact absurd rfl hl0 | cons _ _ => simp
  have e0 := wrS1 hlp (by omega)
  refine MFun.intro2 400 [] mixed Tryd.func55 (by kernel_rfl) rfl (by rw [Tryd.results55]; rfl) (Nat.le_of_ble_eq_true rfl) ?_; rw [Tryd.ntmps55]
  simp -dsimp -implicitDefEqProofs (maxSteps := 1000000) only [go_sem, ↓reduceIte, Nat.reduceAdd, Nat.reduceSub, Nat.reduceMul, Nat.reduceLT, Nat.reduceLeDiff, Nat.reduceEqDiff, Nat.reduceBEq, Nat.reduceBNe, Int.reduceToNat, Int.reduceLT, Int.reduceLE, Int.reduceNeg, reduceCtorEq, Int.reduceEq, Int.reduceNe, e0]
  refine ⟨{i : Nat // 2 * i ≤ l.length}, fun i => ⟨28, tl [(0, .sl 0 0 l.length), (2, I i.1), (3, I ((l.length : Int) - 1 - i.1))], [(0, ⟨1, (revP [] l i.1).map strC⟩)], 1, ⟨[tl [(0, .sl 0 0 l.length)]], some (.mp none)⟩⟩, fun i => l.length - i.1,
    ⟨⟨0, by omega⟩, Le.tl (Ls := [[(0, .sl 0 0 l.length)]]) [] ?_ ?_ (by simp) (by simp [sg]) ⟨by simp -dsimp -implicitDefEqProofs (maxSteps := 1000000) only [go_sem, ↓reduceIte, Nat.reduceAdd, Nat.reduceSub, Nat.reduceMul, Nat.reduceLT, Nat.reduceLeDiff, Nat.reduceEqDiff, Nat.reduceBEq, Nat.reduceBNe, Int.reduceToNat, Int.reduceLT, Int.reduceLE, Int.reduceNeg, reduceCtorEq, Int.reduceEq, Int.reduceNe], trivial⟩⟩, fun i => ?_⟩
  · simp -dsimp -implicitDefEqProofs (maxSteps := 1000000) only [go_sem, ↓reduceIte, Nat.reduceAdd, Nat.reduceSub, Nat.reduceMul, Nat.reduceLT, Nat.reduceLeDiff, Nat.reduceEqDiff, Nat.reduceBEq, Nat.reduceBNe, Int.reduceToNat, Int.reduceLT, Int.reduceLE, Int.reduceNeg, reduceCtorEq, Int.reduceEq, Int.reduceNe]
    congr 1
    omega
  · simp -dsimp -implicitDefEqProofs (maxSteps := 1000000) only [go_sem, ↓reduceIte, Nat.reduceAdd, Nat.reduceSub, Nat.reduceMul, Nat.reduceLT, Nat.reduceLeDiff, Nat.reduceEqDiff, Nat.reduceBEq, Nat.reduceBNe, Int.reduceToNat, Int.reduceLT, Int.reduceLE, Int.reduceNeg, reduceCtorEq, Int.reduceEq, Int.reduceNe]
    exact renL_cl2 (by rw [revP_0]) (clStr _)
  obtain ⟨i, hi⟩ := i
  simp -dsimp -implicitDefEqProofs (maxSteps := 1000000) only [go_sem, ↓reduceIte, Nat.reduceAdd, Nat.reduceSub, Nat.reduceMul, Nat.reduceLT, Nat.reduceLeDiff, Nat.reduceEqDiff, Nat.reduceBEq, Nat.reduceBNe, Int.reduceToNat, Int.reduceLT, Int.reduceLE, Int.reduceNeg, reduceCtorEq, Int.reduceEq, Int.reduceNe]
  refine ⟨fun h => ?_, fun h => ?_⟩
  · obtain ⟨j, hj⟩ : ∃ j : Nat, (l.length : Int) - 1 - i = (j : Int) := Int.eq_ofNat_of_zero_le (by omega)
    rw [hj] at h ⊢
    have g1 := revP_get [] l i i (by omega) (by omega)
    have g2 := revP_get [] l i j (by omega) (by omega)
    have c1 : (i : Int) < (l.length : Int) := by omega
    have c2 : (j : Int) < (l.length : Int) := by omega
    have g3 : ∀ x : List AV, (((revP [] l i).map strC).set i x)[j]? = some (strC (l.getD j [])) := fun x => by
      rw [List.getElem?_set_ne (by omega), List.getElem?_map, g2]; rfl
    have e1 : wr ((i : Int) + 1) = ((i + 1 : Nat) : Int) := wrA1 (by omega)
    have e2 : wr ((j : Int) - 1) = (l.length : Int) - 1 - ((i + 1 : Nat) : Int) := by rw [wr_in] <;> omega
    refine AtCode.drawB 13 [([], []), ([], []), ([], [0]), ([], [0]), ([], []), ([], []), ([4, 5], []), ([4, 5, 6], []), ([], []), ([], []), ([8, 9], []), ([8, 9, 10], []), ([0, 1, 4, 5, 6, 7, 8, 9, 10, 11], []), ([0, 1, 4, 5, 6, 7, 8, 9, 10, 11, 12], []), ([0, 1, 2, 3, 4, 5, 6, 7, 8, 9, 10, 11, 12, 13], []), ([0, 1, 2, 3, 4, 5, 6, 7, 8, 9, 10, 11, 12, 13, 14], [])] [false, true, true] (by kernel_rfl) ?_
    simp -dsimp -implicitDefEqProofs (maxSteps := 1000000) only [go_sem, ↓reduceIte, Nat.reduceAdd, Nat.reduceSub, Nat.reduceMul, Nat.reduceLT, Nat.reduceLeDiff, Nat.reduceEqDiff, Nat.reduceBEq, Nat.reduceBNe, Int.reduceToNat, Int.reduceLT, Int.reduceLE, Int.reduceNeg, reduceCtorEq, Int.reduceEq, Int.reduceNe, List.length_map, revP_len, List.getElem?_map, Int.natCast_nonneg, Int.toNat_natCast, Nat.zero_add, g1, g2, g3, c1, c2]
    refine ⟨by kernel_rfl, ⟨i + 1, by omega⟩, by show l.length - (i + 1) < l.length - i; omega, Le.tl (Ls := [[(0, .sl 0 0 l.length)]]) [] (by simp -dsimp -implicitDefEqProofs (maxSteps := 1000000) only [go_sem, ↓reduceIte, Nat.reduceAdd, Nat.reduceSub, Nat.reduceMul, Nat.reduceLT, Nat.reduceLeDiff, Nat.reduceEqDiff, Nat.reduceBEq, Nat.reduceBNe, Int.reduceToNat, Int.reduceLT, Int.reduceLE, Int.reduceNeg, reduceCtorEq, Int.reduceEq, Int.reduceNe, e1, e2]) ?_ (by simp) (by simp [sg]) ⟨by simp -dsimp -implicitDefEqProofs (maxSteps := 1000000) only [go_sem, ↓reduceIte, Nat.reduceAdd, Nat.reduceSub, Nat.reduceMul, Nat.reduceLT, Nat.reduceLeDiff, Nat.reduceEqDiff, Nat.reduceBEq, Nat.reduceBNe, Int.reduceToNat, Int.reduceLT, Int.reduceLE, Int.reduceNeg, reduceCtorEq, Int.reduceEq, Int.reduceNe], trivial⟩⟩
    simp -dsimp -implicitDefEqProofs (maxSteps := 1000000) only [go_sem, ↓reduceIte, Nat.reduceAdd, Nat.reduceSub, Nat.reduceMul, Nat.reduceLT, Nat.reduceLeDiff, Nat.reduceEqDiff, Nat.reduceBEq, Nat.reduceBNe, Int.reduceToNat, Int.reduceLT, Int.reduceLE, Int.reduceNeg, reduceCtorEq, Int.reduceEq, Int.reduceNe]
    refine renL_cl2 ?_ (clStr _)
    rw [← revP_set [] l i j (by omega) (by omega), List.map_set, List.map_set]
  · refine FinM2.mkv [] [(0, .sl 0 0 l.length)] ?_ ?_ ?_ ?_ ?_
    · simp -dsimp -implicitDefEqProofs (maxSteps := 1000000) only [go_sem, ↓reduceIte, Nat.reduceAdd, Nat.reduceSub, Nat.reduceMul, Nat.reduceLT, Nat.reduceLeDiff, Nat.reduceEqDiff, Nat.reduceBEq, Nat.reduceBNe, Int.reduceToNat, Int.reduceLT, Int.reduceLE, Int.reduceNeg, reduceCtorEq, Int.reduceEq, Int.reduceNe]
      exact renL_cl2 (by rw [revP_n _ _ _ (by omega)]) (clStr _)
    · simp
    · simp [sg]
    · simp -dsimp -implicitDefEqProofs (maxSteps := 1000000) only [go_sem, ↓reduceIte, Nat.reduceAdd, Nat.reduceSub, Nat.reduceMul, Nat.reduceLT, Nat.reduceLeDiff, Nat.reduceEqDiff, Nat.reduceBEq, Nat.reduceBNe, Int.reduceToNat, Int.reduceLT, Int.reduceLE, Int.reduceNeg, reduceCtorEq, Int.reduceEq, Int.reduceNe]
    · simp only [List.mem_singleton, forall_eq]
      have hne : l.map strC ≠ [] := by simpa using hl0
      have hne2 : l.reverse.map strC ≠ [] := by simpa using hl0
      exact ⟨0, 0, l.length - 1, _, _, by rw [Nat.sub_add_cancel (by omega)]; rfl, by rw [Nat.sub_add_cancel (by omega)]; simp -dsimp -implicitDefEqProofs (maxSteps := 1000000) only [go_sem, ↓reduceIte, Nat.reduceAdd, Nat.reduceSub, Nat.reduceMul, Nat.reduceLT, Nat.reduceLeDiff, Nat.reduceEqDiff, Nat.reduceBEq, Nat.reduceBNe, Int.reduceToNat, Int.reduceLT, Int.reduceLE, Int.reduceNeg, reduceCtorEq, Int.reduceEq, Int.reduceNe], rfl, rfl, rfl, hne, hne2⟩
end

section
set_option maxRecDepth 20000
abbrev digL : List UInt8 := [48, 49, 50, 51, 52, 53, 54, 55, 56, 57, 97, 98, 99, 100, 101, 102]
abbrev Rn (r : Int) : AV := .v (.int .i32 r)
def vruneB (r : Int) : Bool := (decide (0 ≤ r) && decide (r < 55296)) || (decide (57343 < r) && decide (r ≤ 1114111))
theorem vrune100 (r : Int) : PFun Tryd.prog 100 [Rn r] (Bo (vruneB r)) := by
  refine PFun.intro 400 mixed Tryd.func100 (by kernel_rfl) rfl (by first | exact .v _ | (simp [Cl_v, Cl_t, Cl_g, Cl_fn, Cl_rp, Cl_ro]; done) | (simp [Cl_v, Cl_t, Cl_g, Cl_fn, Cl_rp, Cl_ro, or_imp, forall_and]; done) | (split <;> simp [Cl_v, Cl_t, Cl_g, Cl_fn, Cl_rp, Cl_ro])) (Nat.le_of_ble_eq_true rfl) ?_; rw [Tryd.ntmps100, Tryd.results100]
  simp -dsimp -implicitDefEqProofs (maxSteps := 1000000) only [go_sem, ↓reduceIte, Nat.reduceAdd, Nat.reduceSub, Nat.reduceMul, Nat.reduceLT, Nat.reduceLeDiff, Nat.reduceEqDiff, Nat.reduceBEq, Nat.reduceBNe, Int.reduceToNat, Int.reduceLT, Int.reduceLE, Int.reduceNeg, reduceCtorEq, Int.reduceEq, Int.reduceNe]
  repeat' (first | (apply And.intro <;> intro _) | (intro _))
  all_goals simp [vruneB, *]
  all_goals (try omega)
theorem rune88a (r : Int) (h : 0 ≤ r ∧ r < 128) : PFun Tryd.prog 88 [Str digL, Rn r] (I (Lib.indexByte digL r.toNat.toUInt8)) := by
  have c1 : ¬ r < 0 := by omega
  have c2 : r < 128 := by omega
  have c3 : (0 : Int) ≤ r := by omega
  have e1 : IntKind.u8.wrap r = r := u8_ink (by simp only [inkB, Bool.and_eq_true, decide_eq_true_eq]; omega)
  refine PFun.intro 400 mixed Tryd.func88 (by kernel_rfl) rfl (by first | exact .v _ | (simp [Cl_v, Cl_t, Cl_g, Cl_fn, Cl_rp, Cl_ro]; done) | (simp [Cl_v, Cl_t, Cl_g, Cl_fn, Cl_rp, Cl_ro, or_imp, forall_and]; done) | (split <;> simp [Cl_v, Cl_t, Cl_g, Cl_fn, Cl_rp, Cl_ro])) (Nat.le_of_ble_eq_true rfl) ?_; rw [Tryd.ntmps88, Tryd.results88]
  simp -dsimp -implicitDefEqProofs (maxSteps := 1000000) only [go_sem, ↓reduceIte, Nat.reduceAdd, Nat.reduceSub, Nat.reduceMul, Nat.reduceLT, Nat.reduceLeDiff, Nat.reduceEqDiff, Nat.reduceBEq, Nat.reduceBNe, Int.reduceToNat, Int.reduceLT, Int.reduceLE, Int.reduceNeg, reduceCtorEq, Int.reduceEq, Int.reduceNe, c1, c2, c3, e1]
  refine AtFn.pure0 (ib99 digL r) ?_
  simp -dsimp -implicitDefEqProofs (maxSteps := 1000000) only [go_sem, ↓reduceIte, Nat.reduceAdd, Nat.reduceSub, Nat.reduceMul, Nat.reduceLT, Nat.reduceLeDiff, Nat.reduceEqDiff, Nat.reduceBEq, Nat.reduceBNe, Int.reduceToNat, Int.reduceLT, Int.reduceLE, Int.reduceNeg, reduceCtorEq, Int.reduceEq, Int.reduceNe]
theorem dec_dig : ((List.range 16).all fun p => decide ((Utf8.decode digits p).2 = 1) && decide ((Utf8.decode digits p).1 < 128)) = true := by kernel_rfl
theorem dec_digs {p : Nat} (h : p < 16) : (Utf8.decode digits p).2 = 1 ∧ (Utf8.decode digits p).1 < 128 := by
  have := List.all_eq_true.1 dec_dig p (List.mem_range.2 h)
  simpa using this
theorem rune88b : PFun Tryd.prog 88 [Str digL, Rn 65533] (I (-1)) := by
  refine PFun.introM 400 mixed Tryd.func88 (by kernel_rfl) rfl (by first | exact .v _ | (simp [Cl_v, Cl_t, Cl_g, Cl_fn, Cl_rp, Cl_ro]; done) | (simp [Cl_v, Cl_t, Cl_g, Cl_fn, Cl_rp, Cl_ro, or_imp, forall_and]; done) | (split <;> simp [Cl_v, Cl_t, Cl_g, Cl_fn, Cl_rp, Cl_ro])) (Nat.le_of_ble_eq_true rfl) ?_; rw [Tryd.ntmps88, Tryd.results88]
  simp -dsimp -implicitDefEqProofs (maxSteps := 1000000) only [go_sem, ↓reduceIte, Nat.reduceAdd, Nat.reduceSub, Nat.reduceMul, Nat.reduceLT, Nat.reduceLeDiff, Nat.reduceEqDiff, Nat.reduceBEq, Nat.reduceBNe, Int.reduceToNat, Int.reduceLT, Int.reduceLE, Int.reduceNeg, reduceCtorEq, Int.reduceEq, Int.reduceNe]
  refine AtOp.rangeS rfl (by kernel_rfl) (by simp -dsimp -implicitDefEqProofs (maxSteps := 1000000) only [go_sem, ↓reduceIte, Nat.reduceAdd, Nat.reduceSub, Nat.reduceMul, Nat.reduceLT, Nat.reduceLeDiff, Nat.reduceEqDiff, Nat.reduceBEq, Nat.reduceBNe, Int.reduceToNat, Int.reduceLT, Int.reduceLE, Int.reduceNeg, reduceCtorEq, Int.reduceEq, Int.reduceNe]; rfl) fun r => ?_
  simp -dsimp -implicitDefEqProofs (maxSteps := 1000000) only [go_sem, ↓reduceIte, Nat.reduceAdd, Nat.reduceSub, Nat.reduceMul, Nat.reduceLT, Nat.reduceLeDiff, Nat.reduceEqDiff, Nat.reduceBEq, Nat.reduceBNe, Int.reduceToNat, Int.reduceLT, Int.reduceLE, Int.reduceNeg, reduceCtorEq, Int.reduceEq, Int.reduceNe]
  refine ⟨{p : Nat // p ≤ 16}, fun p => ⟨187, tl [(175, .v (.pointer (some ⟨r, 0, none⟩)))], [], 0, ⟨[], some (.mp (some (r, .str digits p.1)))⟩⟩, fun p => 16 - p.1,
    ⟨⟨0, by omega⟩, Le.tl (Ls := []) [] (by simp -dsimp -implicitDefEqProofs (maxSteps := 1000000) only [go_sem, ↓reduceIte, Nat.reduceAdd, Nat.reduceSub, Nat.reduceMul, Nat.reduceLT, Nat.reduceLeDiff, Nat.reduceEqDiff, Nat.reduceBEq, Nat.reduceBNe, Int.reduceToNat, Int.reduceLT, Int.reduceLE, Int.reduceNeg, reduceCtorEq, Int.reduceEq, Int.reduceNe]) (by simp) (by simp) (by simp) trivial⟩, fun p => ?_⟩
  obtain ⟨p, hp⟩ := p
  simp -dsimp -implicitDefEqProofs (maxSteps := 1000000) only [go_sem, ↓reduceIte, Nat.reduceAdd, Nat.reduceSub, Nat.reduceMul, Nat.reduceLT, Nat.reduceLeDiff, Nat.reduceEqDiff, Nat.reduceBEq, Nat.reduceBNe, Int.reduceToNat, Int.reduceLT, Int.reduceLE, Int.reduceNeg, reduceCtorEq, Int.reduceEq, Int.reduceNe]
  refine AtOp.nextS (b := digits) (pos := p) rfl (by simp -dsimp -implicitDefEqProofs (maxSteps := 1000000) only [go_sem, ↓reduceIte, Nat.reduceAdd, Nat.reduceSub, Nat.reduceMul, Nat.reduceLT, Nat.reduceLeDiff, Nat.reduceEqDiff, Nat.reduceBEq, Nat.reduceBNe, Int.reduceToNat, Int.reduceLT, Int.reduceLE, Int.reduceNeg, reduceCtorEq, Int.reduceEq, Int.reduceNe]) ?_
  by_cases hlt : p < 16
  · obtain ⟨d1, d2⟩ := dec_digs hlt
    rw [if_pos (show p < digits.size from hlt), d1]
    obtain ⟨c, hc⟩ : ∃ c, c = (Utf8.decode digits p).1 := ⟨_, rfl⟩
    rw [← hc] at d2 ⊢
    have f1 : ¬ ((c : Nat) : Int) = 65533 := by omega
    simp -dsimp -implicitDefEqProofs (maxSteps := 1000000) only [go_sem, ↓reduceIte, Nat.reduceAdd, Nat.reduceSub, Nat.reduceMul, Nat.reduceLT, Nat.reduceLeDiff, Nat.reduceEqDiff, Nat.reduceBEq, Nat.reduceBNe, Int.reduceToNat, Int.reduceLT, Int.reduceLE, Int.reduceNeg, reduceCtorEq, Int.reduceEq, Int.reduceNe, f1]
    exact ⟨⟨p + 1, by omega⟩, by show 16 - (p + 1) < 16 - p; omega, Le.tl (Ls := []) [] (by simp -dsimp -implicitDefEqProofs (maxSteps := 1000000) only [go_sem, ↓reduceIte, Nat.reduceAdd, Nat.reduceSub, Nat.reduceMul, Nat.reduceLT, Nat.reduceLeDiff, Nat.reduceEqDiff, Nat.reduceBEq, Nat.reduceBNe, Int.reduceToNat, Int.reduceLT, Int.reduceLE, Int.reduceNeg, reduceCtorEq, Int.reduceEq, Int.reduceNe]) (by simp) (by simp) (by simp) trivial⟩
  · rw [if_neg (show ¬ p < digits.size from hlt)]
    simp -dsimp -implicitDefEqProofs (maxSteps := 1000000) only [go_sem, ↓reduceIte, Nat.reduceAdd, Nat.reduceSub, Nat.reduceMul, Nat.reduceLT, Nat.reduceLeDiff, Nat.reduceEqDiff, Nat.reduceBEq, Nat.reduceBNe, Int.reduceToNat, Int.reduceLT, Int.reduceLE, Int.reduceNeg, reduceCtorEq, Int.reduceEq, Int.reduceNe]
theorem enc_ok {r : Int} (h : 128 ≤ r) (hv : vruneB r = true) : ∃ (l : List UInt8) (b : UInt8) (n : Nat), Utf8.encode r = ⟨l.toArray⟩ ∧ l.length = n + 1 ∧ 1 ≤ n ∧ n ≤ 3 ∧ l[n]? = some b ∧ 128 ≤ b.toNat := by
  have hv2 : Utf8.valid r = true := by
    simp only [vruneB, Bool.or_eq_true, Bool.and_eq_true, decide_eq_true_eq] at hv
    simp only [Utf8.valid, Bool.or_eq_true, Bool.and_eq_true, decide_eq_true_eq]
    omega
  have hb : ∀ c : Nat, 128 ≤ (UInt8.ofNat (0x80 + c % 64)).toNat := by
    intro c
    rw [UInt8.toNat_ofNat']
    have : c % 64 < 64 := Nat.mod_lt _ (by omega)
    omega
  unfold Utf8.encode
  rw [hv2]
  simp only [if_true]
  rw [if_neg (by omega)]
  split
  · exact ⟨[_, _], _, 1, rfl, rfl, by omega, by omega, rfl, hb _⟩
  · split
    · exact ⟨[_, _, _], _, 2, rfl, rfl, by omega, by omega, rfl, hb _⟩
    · exact ⟨[_, _, _, _], _, 3, rfl, rfl, by omega, by omega, rfl, hb _⟩
theorem rune88c (r : Int) (h : 128 ≤ r) (h2 : ¬ r = 65533) (hv : vruneB r = true) : PFun Tryd.prog 88 [Str digL, Rn r] (I (-1)) := by
  obtain ⟨l, b, n, he, hl, hn1, hn3, hb, hb2⟩ := enc_ok h hv
  have c2 : ¬ r < 128 := by omega
  have c3 : (0 : Int) ≤ r := by omega
  refine PFun.intro 400 mixed Tryd.func88 (by kernel_rfl) rfl (by first | exact .v _ | (simp [Cl_v, Cl_t, Cl_g, Cl_fn, Cl_rp, Cl_ro]; done) | (simp [Cl_v, Cl_t, Cl_g, Cl_fn, Cl_rp, Cl_ro, or_imp, forall_and]; done) | (split <;> simp [Cl_v, Cl_t, Cl_g, Cl_fn, Cl_rp, Cl_ro])) (Nat.le_of_ble_eq_true rfl) ?_; rw [Tryd.ntmps88, Tryd.results88]
  simp -dsimp -implicitDefEqProofs (maxSteps := 1000000) only [go_sem, ↓reduceIte, Nat.reduceAdd, Nat.reduceSub, Nat.reduceMul, Nat.reduceLT, Nat.reduceLeDiff, Nat.reduceEqDiff, Nat.reduceBEq, Nat.reduceBNe, Int.reduceToNat, Int.reduceLT, Int.reduceLE, Int.reduceNeg, reduceCtorEq, Int.reduceEq, Int.reduceNe, c2, c3, h2]
  refine AtFn.pure0 (vrune100 r) ?_
  simp -dsimp -implicitDefEqProofs (maxSteps := 1000000) only [go_sem, ↓reduceIte, Nat.reduceAdd, Nat.reduceSub, Nat.reduceMul, Nat.reduceLT, Nat.reduceLeDiff, Nat.reduceEqDiff, Nat.reduceBEq, Nat.reduceBNe, Int.reduceToNat, Int.reduceLT, Int.reduceLE, Int.reduceNeg, reduceCtorEq, Int.reduceEq, Int.reduceNe, hv]
  refine AtOp.r2s rfl (by kernel_rfl) (by kernel_rfl) (by simp -dsimp -implicitDefEqProofs (maxSteps := 1000000) only [go_sem, ↓reduceIte, Nat.reduceAdd, Nat.reduceSub, Nat.reduceMul, Nat.reduceLT, Nat.reduceLeDiff, Nat.reduceEqDiff, Nat.reduceBEq, Nat.reduceBNe, Int.reduceToNat, Int.reduceLT, Int.reduceLE, Int.reduceNeg, reduceCtorEq, Int.reduceEq, Int.reduceNe]; rfl) ?_
  rw [he]
  simp -dsimp -implicitDefEqProofs (maxSteps := 1000000) only [go_sem, ↓reduceIte, Nat.reduceAdd, Nat.reduceSub, Nat.reduceMul, Nat.reduceLT, Nat.reduceLeDiff, Nat.reduceEqDiff, Nat.reduceBEq, Nat.reduceBNe, Int.reduceToNat, Int.reduceLT, Int.reduceLE, Int.reduceNeg, reduceCtorEq, Int.reduceEq, Int.reduceNe]
  refine ⟨Unit, fun _ => ⟨187, tl [(0, Str digL), (7, Str l), (8, I n), (9, I n)], [], 0, .nil⟩, fun _ => 0, ⟨(), Le.tl (Ls := []) (y := none) [] ?_ (by simp) (by simp) (by simp) trivial⟩, fun _ => ?_⟩
  · have e1 := wrS1 (a := l.length) (by omega) (by omega)
    rw [hl, Nat.add_sub_cancel] at e1
    simp -dsimp -implicitDefEqProofs (maxSteps := 1000000) only [go_sem, ↓reduceIte, Nat.reduceAdd, Nat.reduceSub, Nat.reduceMul, Nat.reduceLT, Nat.reduceLeDiff, Nat.reduceEqDiff, Nat.reduceBEq, Nat.reduceBNe, Int.reduceToNat, Int.reduceLT, Int.reduceLE, Int.reduceNeg, reduceCtorEq, Int.reduceEq, Int.reduceNe, size_str, hl, e1]
  have c1 : (n : Int) < 16 := by omega
  obtain ⟨d, hd, hd2⟩ : ∃ d : UInt8, digL[n]? = some d ∧ d.toNat < 128 := by
    rcases (show n = 1 ∨ n = 2 ∨ n = 3 by omega) with rfl | rfl | rfl <;> exact ⟨_, rfl, by decide⟩
  have f2 : ¬ ((d.toNat : Nat) : Int) = ((b.toNat : Nat) : Int) := by omega
  have e2 := wrA1 (a := n) (by omega)
  have c4 : n + 1 ≤ 16 := by omega
  have hno : Lib.indexByte (List.drop (n + 1) (List.take 16 digL)) b = -1 := by
    have : b ∉ List.drop (n + 1) (List.take 16 digL) := by
      intro hm
      have hm := List.mem_of_mem_take (List.mem_of_mem_drop hm)
      have : ∀ x ∈ digL, x.toNat < 128 := by decide
      have := this b hm
      omega
    rcases Int.lt_or_le (Lib.indexByte (List.drop (n + 1) (List.take 16 digL)) b) 0 with h | h
    · have := ixB_ge b (List.drop (n + 1) (List.take 16 digL)); omega
    · obtain ⟨u, v, e, _⟩ := ixB_some h
      exact absurd (e ▸ by simp) this
  have hib := ib99 (List.drop (n + 1) (List.take 16 digL)) ((b.toNat : Nat) : Int)
  rw [show ((b.toNat : Nat) : Int).toNat.toUInt8 = b by simp, hno] at hib
  have hsz : ({ data := digL.toArray } : ByteArray).size = 16 := rfl
  simp -dsimp -implicitDefEqProofs (maxSteps := 1000000) only [go_sem, ↓reduceIte, Nat.reduceAdd, Nat.reduceSub, Nat.reduceMul, Nat.reduceLT, Nat.reduceLeDiff, Nat.reduceEqDiff, Nat.reduceBEq, Nat.reduceBNe, Int.reduceToNat, Int.reduceLT, Int.reduceLE, Int.reduceNeg, reduceCtorEq, Int.reduceEq, Int.reduceNe, c1, hsz]
  refine AtCode.draw 7 [([], []), ([], []), ([0, 1], []), ([], []), ([], []), ([3, 4], []), ([0, 1, 2, 3, 4, 5], [])] (by kernel_rfl) ?_
  simp -dsimp -implicitDefEqProofs (maxSteps := 1000000) only [go_sem, ↓reduceIte, Nat.reduceAdd, Nat.reduceSub, Nat.reduceMul, Nat.reduceLT, Nat.reduceLeDiff, Nat.reduceEqDiff, Nat.reduceBEq, Nat.reduceBNe, Int.reduceToNat, Int.reduceLT, Int.reduceLE, Int.reduceNeg, reduceCtorEq, Int.reduceEq, Int.reduceNe, get_str, Int.toNat_natCast, Int.natCast_nonneg, hd, hb, f2]
  refine AtCode.draw 9 [([], []), ([], []), ([1], []), ([0, 1, 2], []), ([], []), ([], []), ([4, 5], []), ([0, 1, 2, 3, 4, 5, 6], []), ([0, 1, 2, 3, 4, 5, 6, 7], [])] (by kernel_rfl) ?_
  simp -dsimp -implicitDefEqProofs (maxSteps := 1000000) only [go_sem, ↓reduceIte, Nat.reduceAdd, Nat.reduceSub, Nat.reduceMul, Nat.reduceLT, Nat.reduceLeDiff, Nat.reduceEqDiff, Nat.reduceBEq, Nat.reduceBNe, Int.reduceToNat, Int.reduceLT, Int.reduceLE, Int.reduceNeg, reduceCtorEq, Int.reduceEq, Int.reduceNe, get_str, Int.toNat_natCast, Int.natCast_nonneg, hd, hb, f2, e2, ext_str, size_str, c4, hsz, Nat.le_refl]
  refine QFn.use _ hib (by simp -dsimp -implicitDefEqProofs (maxSteps := 1000000) only [go_sem, ↓reduceIte, Nat.reduceAdd, Nat.reduceSub, Nat.reduceMul, Nat.reduceLT, Nat.reduceLeDiff, Nat.reduceEqDiff, Nat.reduceBEq, Nat.reduceBNe, Int.reduceToNat, Int.reduceLT, Int.reduceLE, Int.reduceNeg, reduceCtorEq, Int.reduceEq, Int.reduceNe]) ?_
  simp -dsimp -implicitDefEqProofs (maxSteps := 1000000) only [go_sem, ↓reduceIte, Nat.reduceAdd, Nat.reduceSub, Nat.reduceMul, Nat.reduceLT, Nat.reduceLeDiff, Nat.reduceEqDiff, Nat.reduceBEq, Nat.reduceBNe, Int.reduceToNat, Int.reduceLT, Int.reduceLE, Int.reduceNeg, reduceCtorEq, Int.reduceEq, Int.reduceNe]
end

section
set_option maxRecDepth 20000
def runeX (r : Int) : Int := if r < 128 then Lib.indexByte digL r.toNat.toUInt8 else -1
theorem rune88 (r : Int) (h0 : 0 ≤ r) : PFun Tryd.prog 88 [Str digL, Rn r] (I (runeX r)) := by
  unfold runeX
  by_cases h1 : r < 128
  · rw [if_pos h1]; exact rune88a r ⟨h0, h1⟩
  · rw [if_neg h1]
    by_cases h2 : r = 65533
    · subst h2; exact rune88b
    · by_cases h3 : vruneB r = true
      · exact rune88c r (by omega) h2 h3
      · have h3 : vruneB r = false := by simpa using h3
        refine PFun.intro 400 mixed Tryd.func88 (by kernel_rfl) rfl (by first | exact .v _ | (simp [Cl_v, Cl_t, Cl_g, Cl_fn, Cl_rp, Cl_ro]; done) | (simp [Cl_v, Cl_t, Cl_g, Cl_fn, Cl_rp, Cl_ro, or_imp, forall_and]; done) | (split <;> simp [Cl_v, Cl_t, Cl_g, Cl_fn, Cl_rp, Cl_ro])) (Nat.le_of_ble_eq_true rfl) ?_; rw [Tryd.ntmps88, Tryd.results88]
        simp -dsimp -implicitDefEqProofs (maxSteps := 1000000) only [go_sem, ↓reduceIte, Nat.reduceAdd, Nat.reduceSub, Nat.reduceMul, Nat.reduceLT, Nat.reduceLeDiff, Nat.reduceEqDiff, Nat.reduceBEq, Nat.reduceBNe, Int.reduceToNat, Int.reduceLT, Int.reduceLE, Int.reduceNeg, reduceCtorEq, Int.reduceEq, Int.reduceNe, h1, h0, h2]
        refine AtFn.pure0 (vrune100 r) ?_
        simp -dsimp -implicitDefEqProofs (maxSteps := 1000000) only [go_sem, ↓reduceIte, Nat.reduceAdd, Nat.reduceSub, Nat.reduceMul, Nat.reduceLT, Nat.reduceLeDiff, Nat.reduceEqDiff, Nat.reduceBEq, Nat.reduceBNe, Int.reduceToNat, Int.reduceLT, Int.reduceLE, Int.reduceNeg, reduceCtorEq, Int.reduceEq, Int.reduceNe, h3]
theorem dec_lo {s : ByteArray} {i : Nat} (h : (s.get! i).toNat < 128) : Utf8.decode s i = ((s.get! i).toNat, 1) := by
  unfold Utf8.decode
  simp only [Nat.add_zero]
  rw [if_pos h]
theorem dec_hi {s : ByteArray} {i : Nat} (h : ¬ (s.get! i).toNat < 128) : 128 ≤ (Utf8.decode s i).1 := by
  unfold Utf8.decode
  simp only [Nat.add_zero]
  rw [if_neg h]
  simp only [Utf8.runeError]
  split
  · split
    · simpa using ‹_›
    · decide
  · split
    · split
      · rename_i hh; simp only [Bool.and_eq_true, decide_eq_true_eq] at hh; simp only; omega
      · decide
    · split
      · split
        · rename_i hh; simp only [Bool.and_eq_true, decide_eq_true_eq] at hh; simp only; omega
        · decide
      · decide
theorem get_bang {l : List UInt8} {i : Nat} {c : UInt8} (h : l[i]? = some c) : (⟨l.toArray⟩ : ByteArray).get! i = c := by
  show l.toArray[i]! = c
  have hlt := (List.getElem?_eq_some_iff.1 h).1
  rw [getElem!_pos l.toArray i (by simpa using hlt)]
  have := (List.getElem?_eq_some_iff.1 h).2
  simpa using this
def vP : List UInt8 → Int
  | [a] => ixD a
  | [a, b] => 16 * ixD a + ixD b
  | _ => 0
theorem or_all : ((List.range 256).all fun n => decide (IntKind.u8.wrap ↑(BitVec.ofInt IntKind.u8.bits (IntKind.u8.wrap (((n / 16 : Nat) : Int) * 2 ^ min 4 8)) ||| BitVec.ofInt IntKind.u8.bits (IntKind.u8.wrap ((n % 16 : Nat) : Int))).toNat = ((n : Nat) : Int))) = true := by kernel_rfl
theorem or_ok {a b : Int} (ha : 0 ≤ a ∧ a ≤ 15) (hb : 0 ≤ b ∧ b ≤ 15) : IntKind.u8.wrap ↑(BitVec.ofInt IntKind.u8.bits (IntKind.u8.wrap (a * 2 ^ min 4 8)) ||| BitVec.ofInt IntKind.u8.bits (IntKind.u8.wrap b)).toNat = 16 * a + b := by
  obtain ⟨a, rfl⟩ := Int.eq_ofNat_of_zero_le ha.1
  obtain ⟨b, rfl⟩ := Int.eq_ofNat_of_zero_le hb.1
  have := List.all_eq_true.1 or_all (16 * a + b) (List.mem_range.2 (by omega))
  rw [decide_eq_true_eq, show (16 * a + b) / 16 = a by omega, show (16 * a + b) % 16 = b by omega] at this
  rw [this]; simp
theorem ixD_rune {c : UInt8} (h : c.toNat < 128) : runeX ((c.toNat : Nat) : Int) = ixD c := by
  unfold runeX ixD
  rw [if_pos (by omega)]
  simp
theorem ixD_hi {c : UInt8} (h : ¬ c.toNat < 128) : ixD c = -1 := by
  have : ∀ n < 256, ¬ n < 128 → ixD (UInt8.ofNat n) = -1 := by decide +kernel
  have := this c.toNat c.toNat_lt h
  simpa using this
theorem two_cases {l : List UInt8} (hl : l.length = 1 ∨ l.length = 2) : (∃ a, l = [a]) ∨ ∃ a b, l = [a, b] := by
  match l, hl with
  | [a], _ => exact .inl ⟨a, rfl⟩
  | [a, b], _ => exact .inr ⟨a, b, rfl⟩
  | [], h => simp at h
  | _ :: _ :: _ :: _, h => simp at h
theorem inkP_bad {l : List UInt8} (hl : l.length = 1 ∨ l.length = 2) (hd : ¬ l = [46, 46]) {c : UInt8} (hc : c ∈ l) (h : ixD c < 0) : inkP l = (0, false) := by
  rcases two_cases hl with ⟨a, rfl⟩ | ⟨a, b, rfl⟩
  · rw [List.mem_singleton.1 hc] at h
    simp only [inkP]
    rw [if_pos h]
  · simp only [inkP]
    rw [if_neg (by rintro ⟨rfl, rfl⟩; exact hd rfl), if_pos]
    simp only [List.mem_cons, List.not_mem_nil, or_false] at hc
    rcases hc with rfl | rfl
    · exact .inl h
    · exact .inr h
theorem inkP_good {l : List UInt8} (hl : l.length = 1 ∨ l.length = 2) (hd : ¬ l = [46, 46]) (h : ∀ c ∈ l, 0 ≤ ixD c) : inkP l = (vP l, decide ((l.length : Int) = 2)) := by
  rcases two_cases hl with ⟨a, rfl⟩ | ⟨a, b, rfl⟩
  · have ha := h a (by simp)
    simp only [inkP, vP]
    rw [if_neg (by omega)]
    rfl
  · have ha := h a (by simp)
    have hb := h b (by simp)
    simp only [inkP, vP]
    rw [if_neg (by rintro ⟨rfl, rfl⟩; exact hd rfl), if_neg (by omega)]
    rfl
theorem vP_step {l : List UInt8} (hl : l.length = 1 ∨ l.length = 2) {p : Nat} {c : UInt8} (hc : l[p]? = some c) (hall : ∀ x ∈ l.take p, 0 ≤ ixD x) (h : 0 ≤ ixD c) :
    IntKind.u8.wrap ↑(BitVec.ofInt IntKind.u8.bits (IntKind.u8.wrap (vP (l.take p) * 2 ^ min 4 8)) ||| BitVec.ofInt IntKind.u8.bits (IntKind.u8.wrap (ixD c))).toNat = vP (l.take (p + 1)) := by
  have hcb := ixD_bd c
  rcases two_cases hl with ⟨a, rfl⟩ | ⟨a, b, rfl⟩
  · match p with
    | 0 =>
      simp at hc; subst hc
      have := or_ok (a := 0) (b := ixD a) (by omega) (by omega)
      simpa [vP] using this
    | p + 1 => simp at hc
  · match p with
    | 0 =>
      simp at hc; subst hc
      have := or_ok (a := 0) (b := ixD a) (by omega) (by omega)
      simpa [vP] using this
    | 1 =>
      simp at hc; subst hc
      have ha := hall a (by simp)
      have hab := ixD_bd a
      have := or_ok (a := ixD a) (b := ixD b) (by omega) (by omega)
      simpa [vP] using this
    | p + 2 => simp at hc
theorem inkOf58 (l : List UInt8) (hl : l.length = 1 ∨ l.length = 2) : PFun Tryd.prog 58 [Str l] (.t [U (inkP l).1, Bo (inkP l).2]) := by
  by_cases hdd : l = [46, 46]
  · subst hdd
    refine PFun.introM 400 mixed Tryd.func58 (by kernel_rfl) rfl (by first | exact .v _ | (simp [Cl_v, Cl_t, Cl_g, Cl_fn, Cl_rp, Cl_ro]; done) | (simp [Cl_v, Cl_t, Cl_g, Cl_fn, Cl_rp, Cl_ro, or_imp, forall_and]; done) | (split <;> simp [Cl_v, Cl_t, Cl_g, Cl_fn, Cl_rp, Cl_ro])) (Nat.le_of_ble_eq_true rfl) ?_; rw [Tryd.ntmps58, Tryd.results58]
    simp -dsimp -implicitDefEqProofs (maxSteps := 1000000) only [go_sem, ↓reduceIte, Nat.reduceAdd, Nat.reduceSub, Nat.reduceMul, Nat.reduceLT, Nat.reduceLeDiff, Nat.reduceEqDiff, Nat.reduceBEq, Nat.reduceBNe, Int.reduceToNat, Int.reduceLT, Int.reduceLE, Int.reduceNeg, reduceCtorEq, Int.reduceEq, Int.reduceNe]
    rfl
  have hne : (({ data := l.toArray } : ByteArray).toList == ({ data := #[46, 46] } : ByteArray).toList) = false := (str_eqF l [46, 46]).2 hdd
  refine PFun.introM 400 mixed Tryd.func58 (by kernel_rfl) rfl (by first | exact .v _ | (simp [Cl_v, Cl_t, Cl_g, Cl_fn, Cl_rp, Cl_ro]; done) | (simp [Cl_v, Cl_t, Cl_g, Cl_fn, Cl_rp, Cl_ro, or_imp, forall_and]; done) | (split <;> simp [Cl_v, Cl_t, Cl_g, Cl_fn, Cl_rp, Cl_ro])) (Nat.le_of_ble_eq_true rfl) ?_; rw [Tryd.ntmps58, Tryd.results58]
  simp -dsimp -implicitDefEqProofs (maxSteps := 1000000) only [go_sem, ↓reduceIte, Nat.reduceAdd, Nat.reduceSub, Nat.reduceMul, Nat.reduceLT, Nat.reduceLeDiff, Nat.reduceEqDiff, Nat.reduceBEq, Nat.reduceBNe, Int.reduceToNat, Int.reduceLT, Int.reduceLE, Int.reduceNeg, reduceCtorEq, Int.reduceEq, Int.reduceNe, hne]
  refine AtOp.rangeS rfl (by kernel_rfl) (by simp -dsimp -implicitDefEqProofs (maxSteps := 1000000) only [go_sem, ↓reduceIte, Nat.reduceAdd, Nat.reduceSub, Nat.reduceMul, Nat.reduceLT, Nat.reduceLeDiff, Nat.reduceEqDiff, Nat.reduceBEq, Nat.reduceBNe, Int.reduceToNat, Int.reduceLT, Int.reduceLE, Int.reduceNeg, reduceCtorEq, Int.reduceEq, Int.reduceNe]; rfl) fun r => ?_
  simp -dsimp -implicitDefEqProofs (maxSteps := 1000000) only [go_sem, ↓reduceIte, Nat.reduceAdd, Nat.reduceSub, Nat.reduceMul, Nat.reduceLT, Nat.reduceLeDiff, Nat.reduceEqDiff, Nat.reduceBEq, Nat.reduceBNe, Int.reduceToNat, Int.reduceLT, Int.reduceLE, Int.reduceNeg, reduceCtorEq, Int.reduceEq, Int.reduceNe]
  refine ⟨{p : Nat // p ≤ l.length ∧ ∀ c ∈ l.take p, 0 ≤ ixD c}, fun p => ⟨27, tl [(0, Str l), (2, U (vP (l.take p.1))), (10, .v (.pointer (some ⟨r, 0, none⟩)))], [], 0, ⟨[], some (.mp (some (r, .str ⟨l.toArray⟩ p.1)))⟩⟩, fun p => l.length - p.1,
    ⟨⟨0, by omega, by simp⟩, Le.tl (Ls := []) [] (by simp -dsimp -implicitDefEqProofs (maxSteps := 1000000) only [go_sem, ↓reduceIte, Nat.reduceAdd, Nat.reduceSub, Nat.reduceMul, Nat.reduceLT, Nat.reduceLeDiff, Nat.reduceEqDiff, Nat.reduceBEq, Nat.reduceBNe, Int.reduceToNat, Int.reduceLT, Int.reduceLE, Int.reduceNeg, reduceCtorEq, Int.reduceEq, Int.reduceNe, List.take_zero, vP]) (by simp) (by simp) (by simp) trivial⟩, fun p => ?_⟩
  obtain ⟨p, hp, hall⟩ := p
  simp -dsimp -implicitDefEqProofs (maxSteps := 1000000) only [go_sem, ↓reduceIte, Nat.reduceAdd, Nat.reduceSub, Nat.reduceMul, Nat.reduceLT, Nat.reduceLeDiff, Nat.reduceEqDiff, Nat.reduceBEq, Nat.reduceBNe, Int.reduceToNat, Int.reduceLT, Int.reduceLE, Int.reduceNeg, reduceCtorEq, Int.reduceEq, Int.reduceNe]
  refine AtOp.nextS (b := ⟨l.toArray⟩) (pos := p) rfl (by simp -dsimp -implicitDefEqProofs (maxSteps := 1000000) only [go_sem, ↓reduceIte, Nat.reduceAdd, Nat.reduceSub, Nat.reduceMul, Nat.reduceLT, Nat.reduceLeDiff, Nat.reduceEqDiff, Nat.reduceBEq, Nat.reduceBNe, Int.reduceToNat, Int.reduceLT, Int.reduceLE, Int.reduceNeg, reduceCtorEq, Int.reduceEq, Int.reduceNe]) ?_
  by_cases hlt : p < l.length
  · rw [if_pos (show p < (⟨l.toArray⟩ : ByteArray).size by rw [size_str]; exact hlt)]
    obtain ⟨c, hc⟩ : ∃ c, l[p]? = some c := ⟨_, List.getElem?_eq_getElem hlt⟩
    have hg := get_bang hc
    by_cases hc128 : c.toNat < 128
    · rw [dec_lo (by rw [hg]; exact hc128), hg]
      simp -dsimp -implicitDefEqProofs (maxSteps := 1000000) only [go_sem, ↓reduceIte, Nat.reduceAdd, Nat.reduceSub, Nat.reduceMul, Nat.reduceLT, Nat.reduceLeDiff, Nat.reduceEqDiff, Nat.reduceBEq, Nat.reduceBNe, Int.reduceToNat, Int.reduceLT, Int.reduceLE, Int.reduceNeg, reduceCtorEq, Int.reduceEq, Int.reduceNe]
      refine AtFn.pure0 (rune88 _ (by omega)) ?_
      rw [ixD_rune hc128]
      simp -dsimp -implicitDefEqProofs (maxSteps := 1000000) only [go_sem, ↓reduceIte, Nat.reduceAdd, Nat.reduceSub, Nat.reduceMul, Nat.reduceLT, Nat.reduceLeDiff, Nat.reduceEqDiff, Nat.reduceBEq, Nat.reduceBNe, Int.reduceToNat, Int.reduceLT, Int.reduceLE, Int.reduceNeg, reduceCtorEq, Int.reduceEq, Int.reduceNe]
      refine ⟨fun hneg => ?_, fun hpos => ?_⟩
      · rw [inkP_bad hl hdd (List.mem_of_getElem? hc) hneg]
      · have hstep := vP_step hl hc hall (by omega)
        refine ⟨⟨p + 1, by omega, fun x hx => ?_⟩, by show l.length - (p + 1) < l.length - p; omega, Le.tl (Ls := []) [] (by simp -dsimp -implicitDefEqProofs (maxSteps := 1000000) only [go_sem, ↓reduceIte, Nat.reduceAdd, Nat.reduceSub, Nat.reduceMul, Nat.reduceLT, Nat.reduceLeDiff, Nat.reduceEqDiff, Nat.reduceBEq, Nat.reduceBNe, Int.reduceToNat, Int.reduceLT, Int.reduceLE, Int.reduceNeg, reduceCtorEq, Int.reduceEq, Int.reduceNe, hstep]) (by simp) (by simp) (by simp) trivial⟩
        rw [List.take_add_one, hc] at hx
        rcases List.mem_append.1 hx with hx | hx
        · exact hall x hx
        · simp at hx; subst hx; omega
    · have := dec_hi (s := ⟨l.toArray⟩) (i := p) (by rw [hg]; exact hc128)
      obtain ⟨q, hq⟩ : ∃ q, q = Utf8.decode ⟨l.toArray⟩ p := ⟨_, rfl⟩
      rw [← hq] at this ⊢
      have hrx : runeX ((q.1 : Nat) : Int) = -1 := by unfold runeX; rw [if_neg (by omega)]
      have hr := rune88 ((q.1 : Nat) : Int) (by omega)
      rw [hrx] at hr
      simp -dsimp -implicitDefEqProofs (maxSteps := 1000000) only [go_sem, ↓reduceIte, Nat.reduceAdd, Nat.reduceSub, Nat.reduceMul, Nat.reduceLT, Nat.reduceLeDiff, Nat.reduceEqDiff, Nat.reduceBEq, Nat.reduceBNe, Int.reduceToNat, Int.reduceLT, Int.reduceLE, Int.reduceNeg, reduceCtorEq, Int.reduceEq, Int.reduceNe]
      refine AtFn.pure0 hr ?_
      simp -dsimp -implicitDefEqProofs (maxSteps := 1000000) only [go_sem, ↓reduceIte, Nat.reduceAdd, Nat.reduceSub, Nat.reduceMul, Nat.reduceLT, Nat.reduceLeDiff, Nat.reduceEqDiff, Nat.reduceBEq, Nat.reduceBNe, Int.reduceToNat, Int.reduceLT, Int.reduceLE, Int.reduceNeg, reduceCtorEq, Int.reduceEq, Int.reduceNe]
      rw [inkP_bad hl hdd (List.mem_of_getElem? hc) (by rw [ixD_hi hc128]; decide)]
  · rw [if_neg (show ¬ p < (⟨l.toArray⟩ : ByteArray).size by rw [size_str]; exact hlt)]
    simp -dsimp -implicitDefEqProofs (maxSteps := 1000000) only [go_sem, ↓reduceIte, Nat.reduceAdd, Nat.reduceSub, Nat.reduceMul, Nat.reduceLT, Nat.reduceLeDiff, Nat.reduceEqDiff, Nat.reduceBEq, Nat.reduceBNe, Int.reduceToNat, Int.reduceLT, Int.reduceLE, Int.reduceNeg, reduceCtorEq, Int.reduceEq, Int.reduceNe, size_str]
    have hpl : l.take p = l := List.take_of_length_le (by omega)
    rw [hpl] at hall ⊢
    rw [inkP_good hl hdd hall]
end

end Go.Proofs.YtfmlhmfbhcfnpaaDoor
