/- What functions of the given program answer, part 5. Conditions: each theorem speaks for itself. -/
import Derived.Test.YtfmlhmfbhcfnpaaDoorBTy
import Derived.Test.YtfmlhmfbhcfnpaaDoorBF1
import Derived.Test.YtfmlhmfbhcfnpaaDoorBF2
import Derived.Test.YtfmlhmfbhcfnpaaDoorBF3
import Derived.Test.YtfmlhmfbhcfnpaaDoorBF4
set_option linter.unusedSimpArgs false
set_option linter.unusedVariables false
namespace Go.Proofs.YtfmlhmfbhcfnpaaDoor
open Go Go.Eng Go.RowKit
attribute [local go_sem ↓] qE_move qE_assign qE_pick qE_load qE_fieldAddr qE_indexAddr qE_extract qE_binOp qE_not qE_convert qE_makeFunc qE_build qE_len qE_max2 qE_min2 qE_usd qE_nilCheck qE_slice vc_end vc_skip vc_scope vc_ret vc_seq vc_cond vc_block vc_exit vc_region vc_draw vc_rangeFunc vc_loop vc_blk vc_lp vc_o_nil vc_o vc_o_guard onK_eq oK_move oK_assign oK_pick oK_load oK_fieldAddr oK_indexAddr oK_index oK_extract oK_binOp oK_unOp oK_convert oK_makeFunc oK_nilCheck oK_slice oK_build oK_len oK_max oK_ustr oK_min onN_eq oK_box oK_alloc oK_buildSlice oK_makeSlice onH_eq oK_store onA_eq oK_append oK_call oK_range oK_next bV_add bV_sub bV_mul bV_quo bV_rem bV_and bV_or bV_shl bV_shr bV_eql bV_neq bV_lss bV_leq bV_gtr bV_geq bV_add_s bV_eql_s bV_neq_s vcQ_nil vcQ_cons Q_move Q_assign Q_load Q_fieldAddr Q_indexAddr Q_index Q_binOp Q_nilCheck Q_slice Q_build Q_len Q_usd Q_min Q_call qE_index tailB_nil tailB_true onS_eq tailB_store onQ_eq loadE indexE
attribute [local go_sem] force_eq optK_some optE_some optE_none vK_v bK_v tK_t fnK_fn fyK_fn fyK_y nK_ptr pK_ptr pK_rp brK_true brK_false brK_not evA_tmp evA_const evA_func putA_some putA_none pushA_eq slots_zero tl_nil tl_cons find_cons find_nil setN_cons setN_nil dropN_nil dropN_cons loE_none loE_some hiE_none hiE_some slE_sl slE_ro slE_str bE_pp bE_p0 bE_00 bE_i bE_s bE_eql bE_neq intsA_nil intsA_cons slK_sl ptrV_eql ptrV_neq gdK_b popTo_blk popTo_c popTo_lp nilE_tmp nilE_int nilE_str nilE_ptr nilE_nil srcE_ro srcE_sl srcE_str dstE_sl dstE_nil apK_E fin_eq res_nil res_tmp res_cell tup1 tup0 optA_some frz_v frz_ro frz_rp frz_g frz_fn frz_ptr frz_sl optL_some nm_v nm_ro nm_rp nm_g nm_fn nm_ptr nm_sl cells_v cells_g cells_ro cells_ptr cells_sl one_int one_string one_slice oneA_v oneA_ro oneA_ptr oneA_sl ofV_int ofV_bool ofV_string ofV_slice ofV_nilFunc ofV_pointer len_ro len_sl asI_int fill_nil fill_cons chunks_nil chunks_cons DrawK_eq idR_eq sg_nil sg_cons ren_v ren_nil ren_ptr ren_sl ren_ro ren_rp iK_ro iK_sl ixE_s RfEnd_eq RfQ_eq RfBody_eq takeA_00 takeA_s updL_cons updL_nil nil_eq maskE_eq i_InlQ i_tup2 i_RenF_nil i_RenF_cons i_cut_nil i_cut_cons wrap_wr brK_dec maskH_eq upd_get slots_succ Cl_v Cl_ro Cl_rp Cl_fn Cl_g Cl_t g_put0 g_put1 u_nil u_tmp u_cell u_fin Bool.false_eq_true decide_true decide_false beq_self_eq_true true_and and_true ne_eq not_true not_false_eq_true List.elem_cons List.elem_nil List.contains_cons List.contains_nil List.getD_cons_zero List.getD_cons_succ Int.cast_ofNat_Int Bool.or_true Bool.true_or Bool.or_false Bool.false_or if_true if_false List.toList_toArray List.map_cons List.map_nil List.cons_append List.nil_append List.append_nil List.flatMap_cons List.flatMap_nil List.getElem?_cons_zero List.getElem?_cons_succ List.length_cons List.length_nil List.drop_succ_cons List.drop_zero List.take_succ_cons List.take_zero List.all_cons List.all_nil List.set_cons_zero List.set_cons_succ Option.bind_some Option.bind_none Option.map_some Option.map_none List.headD_cons List.tail_cons List.getElem?_toArray beq_true beq_false Bool.not_true Bool.not_false Bool.true_and Bool.and_true Bool.false_and Bool.and_false newCh Option.some.injEq exists_eq_left' sg_nil sg_cons List.mem_cons List.not_mem_nil forall_eq_or_imp forall_eq false_implies implies_true or_false false_or false_and and_false or_true true_or exists_false Option.isSome_some Option.isSome_none List.range_zero
attribute [local go_sem] T.sz3 T.ag3 T.ik3 T.us3 T.sz5 T.by5 T.ag5 T.ik5 T.us5 T.ze5 T.sz9 T.by9 T.ag9 T.sl9 T.ar9 T.pt9 T.ik9 T.st9 T.ze9 T.us21 T.sz23 T.by23 T.ag23 T.sl23 T.ar23 T.pt23 T.ik23 T.us23 T.ux23 T.ze23 T.sz25 T.ag25 T.sf25 T.ze25 T.fl25_0 T.fl25_1 T.fl25_2 T.bu25 T.sz26 T.ag26 T.sf26 T.ze26 T.sz34 T.ag34 T.sl34 T.ar34 T.sf34 T.ze34 T.bu34 T.sz37 T.ag37 T.sl37 T.ar37 T.sf37 T.sl40 T.ik40 T.us40 T.ux40 T.sz50 T.by50 T.ag50 T.sl50 T.ar50 T.sf50 T.ze50 T.bu50 T.sl68 T.ar68 T.pt68 T.sz80 T.ag80 T.ik80 T.sf82 T.ze82 T.fl82_0 T.fl82_1 T.sz83 T.ag83 T.sl83 T.ik83 T.us83 T.ux83 T.sl91 T.ik117 -- NOREP
section
set_option maxRecDepth 20000
attribute [local go_sem] clPxT
abbrev raC (r : Ra) : List AV := [I r.w, I r.h, .ro 1 (pxC r.p)]
theorem clRas (l : List Ra) : ∀ c ∈ l.map raC, ∀ s ∈ c, Cl s := fun c hc s hs => by
  obtain ⟨r, _, rfl⟩ := List.mem_map.1 hc
  simp at hs
  rcases hs with rfl | rfl | rfl
  · exact .v _
  · exact .v _
  · exact .ro (clPx _)
def fewB (l : List Ra) : Bool := l.all fun r => decide (r.p.length ≤ 70000)
theorem few18 (l : List Ra) (hl : l.length ≤ 1000) : PFun Tryd.prog 18 [.ro 3 (l.map raC)] (Bo (fewB l)) := by
  refine PFun.intro 400 mixed Tryd.func18 (by kernel_rfl) rfl (by first | exact .v _ | (simp [Cl_v, Cl_t, Cl_g, Cl_fn, Cl_rp, Cl_ro]; done) | (simp [Cl_v, Cl_t, Cl_g, Cl_fn, Cl_rp, Cl_ro, or_imp, forall_and]; done) | (split <;> simp [Cl_v, Cl_t, Cl_g, Cl_fn, Cl_rp, Cl_ro])) (Nat.le_of_ble_eq_true rfl) ?_; rw [Tryd.ntmps18, Tryd.results18]
  simp -dsimp -implicitDefEqProofs (maxSteps := 1000000) only [go_sem, ↓reduceIte, Nat.reduceAdd, Nat.reduceSub, Nat.reduceMul, Nat.reduceLT, Nat.reduceLeDiff, Nat.reduceEqDiff, Nat.reduceBEq, Nat.reduceBNe, Int.reduceToNat, Int.reduceLT, Int.reduceLE, Int.reduceNeg, reduceCtorEq, Int.reduceEq, Int.reduceNe, List.length_map]
  refine ⟨{k : Nat // k ≤ l.length ∧ fewB (l.take k) = true}, fun k => ⟨16, tl [(5, .ro 3 (l.map raC)), (6, I l.length), (7, I k.1)], [], 0, .nil⟩, fun k => l.length - k.1,
    ⟨⟨0, by omega, by simp [fewB]⟩, Le.tl0 (Ls := []) (y := none) [] ?_ (by simp -dsimp -implicitDefEqProofs (maxSteps := 1000000) only [go_sem, ↓reduceIte, Nat.reduceAdd, Nat.reduceSub, Nat.reduceMul, Nat.reduceLT, Nat.reduceLeDiff, Nat.reduceEqDiff, Nat.reduceBEq, Nat.reduceBNe, Int.reduceToNat, Int.reduceLT, Int.reduceLE, Int.reduceNeg, reduceCtorEq, Int.reduceEq, Int.reduceNe]) (by simp) (by simp [sg]) trivial⟩, fun k => ?_⟩
  · simp -dsimp -implicitDefEqProofs (maxSteps := 1000000) only [go_sem, ↓reduceIte, Nat.reduceAdd, Nat.reduceSub, Nat.reduceMul, Nat.reduceLT, Nat.reduceLeDiff, Nat.reduceEqDiff, Nat.reduceBEq, Nat.reduceBNe, Int.reduceToNat, Int.reduceLT, Int.reduceLE, Int.reduceNeg, reduceCtorEq, Int.reduceEq, Int.reduceNe]
    exact clRas _
  obtain ⟨k, hk, hf⟩ := k
  simp -dsimp -implicitDefEqProofs (maxSteps := 1000000) only [go_sem, ↓reduceIte, Nat.reduceAdd, Nat.reduceSub, Nat.reduceMul, Nat.reduceLT, Nat.reduceLeDiff, Nat.reduceEqDiff, Nat.reduceBEq, Nat.reduceBNe, Int.reduceToNat, Int.reduceLT, Int.reduceLE, Int.reduceNeg, reduceCtorEq, Int.reduceEq, Int.reduceNe]
  refine ⟨fun hk' => ?_, fun hout => ?_⟩
  · obtain ⟨r, hr⟩ : ∃ x, l[k]? = some x := ⟨_, List.getElem?_eq_getElem (by omega)⟩
    have ek := wrA1 (a := k) (by omega)
    have ht : fewB (l.take (k + 1)) = decide (r.p.length ≤ 70000) := by
      unfold fewB at hf ⊢
      rw [List.take_add_one, hr, List.all_append, hf]; simp
    simp -dsimp -implicitDefEqProofs (maxSteps := 1000000) only [go_sem, ↓reduceIte, Nat.reduceAdd, Nat.reduceSub, Nat.reduceMul, Nat.reduceLT, Nat.reduceLeDiff, Nat.reduceEqDiff, Nat.reduceBEq, Nat.reduceBNe, Int.reduceToNat, Int.reduceLT, Int.reduceLE, Int.reduceNeg, reduceCtorEq, Int.reduceEq, Int.reduceNe, List.getElem?_map, hr, Int.natCast_nonneg, Int.toNat_natCast, pxC_len]
    refine ⟨fun hb => ?_, fun hb => ?_⟩
    · have : fewB l = false := by
        unfold fewB
        rw [List.all_eq_false]
        exact ⟨r, List.mem_of_getElem? hr, by simp; omega⟩
      rw [this]
    · refine ⟨⟨k + 1, by omega, by rw [ht]; simp; omega⟩, by show l.length - (k + 1) < l.length - k; omega, Le.tl (Ls := []) (y := none) [] ?_ (by simp -dsimp -implicitDefEqProofs (maxSteps := 1000000) only [go_sem, ↓reduceIte, Nat.reduceAdd, Nat.reduceSub, Nat.reduceMul, Nat.reduceLT, Nat.reduceLeDiff, Nat.reduceEqDiff, Nat.reduceBEq, Nat.reduceBNe, Int.reduceToNat, Int.reduceLT, Int.reduceLE, Int.reduceNeg, reduceCtorEq, Int.reduceEq, Int.reduceNe]) (by simp) (by simp [sg]) trivial⟩
      simp -dsimp -implicitDefEqProofs (maxSteps := 1000000) only [go_sem, ↓reduceIte, Nat.reduceAdd, Nat.reduceSub, Nat.reduceMul, Nat.reduceLT, Nat.reduceLeDiff, Nat.reduceEqDiff, Nat.reduceBEq, Nat.reduceBNe, Int.reduceToNat, Int.reduceLT, Int.reduceLE, Int.reduceNeg, reduceCtorEq, Int.reduceEq, Int.reduceNe, ek]
      exact clRas _
  · obtain rfl : k = l.length := by omega
    rw [List.take_length] at hf
    rw [hf]
end

section
set_option maxRecDepth 20000
attribute [local go_sem] clPxT
theorem u8_rng (n : Int) : 0 ≤ IntKind.u8.wrap n ∧ IntKind.u8.wrap n ≤ 255 := by
  have e1 : (2 : Int) ^ IntKind.u8.bits = 256 := by decide
  simp only [IntKind.wrap, e1, IntKind.signed, Bool.false_and]
  simp
  omega
theorem okZ : okP raZ.p := fun x hx => by simp at hx
theorem okP_mk {w h : Nat} {f : Nat → Nat → Int} (hf : ∀ i j, i < w → j < h → 0 ≤ f i j ∧ f i j ≤ 255) : okP (mkR w h f).p := fun x hx => by
  obtain ⟨k, hk, rfl⟩ := List.mem_map.1 hx
  have := mod_lt2 (List.mem_range.1 hk)
  exact hf _ _ this.1 this.2
theorem px_ok {p : List Int} (h : okP p) (w i j : Nat) : 0 ≤ px p w i j ∧ px p w i j ≤ 255 := by
  unfold px List.getD
  cases hx : p[j * w + i]? with
  | none => simp
  | some x => exact h x (List.mem_of_getElem? hx)
theorem ok_turn {r : Ra} (h : okP r.p) : okP (turnP r).1.p := by
  unfold turnP; split
  · exact okP_mk fun _ _ _ _ => px_ok h _ _ _
  · exact okZ
theorem ok_mirror {r : Ra} (h : okP r.p) : okP (mirrorP r).1.p := by
  unfold mirrorP; split
  · exact okP_mk fun _ _ _ _ => px_ok h _ _ _
  · exact okZ
theorem ok_invert (r : Ra) : okP (invertP r).1.p := by
  unfold invertP; split
  · exact okP_mk fun _ _ _ _ => u8_rng _
  · exact okZ
theorem ok_crop {r : Ra} (h : okP r.p) (x y a b : Int) : okP (cropP r x y a b).1.p := by
  unfold cropP; split
  · split
    · exact okP_mk fun _ _ _ _ => px_ok h _ _ _
    · exact okZ
  · exact okZ
theorem few1 (r : Ra) : PFun Tryd.prog 18 [.ro 3 [raC r]] (Bo (decide (r.p.length ≤ 70000))) := by
  have := few18 [r] (by simp)
  simpa [fewB] using this
end

section
set_option maxRecDepth 20000
attribute [local go_sem] clPxT
theorem px_mk {w h : Nat} {f : Nat → Nat → Int} {i j : Nat} (hi : i < w) (hj : j < h) : px (mkR w h f).p w i j = f i j := by
  have hl := idx_lt hi hj
  unfold px mkR List.getD
  rw [List.getElem?_map, List.getElem?_range hl]
  obtain ⟨x1, x2⟩ := at_idx (j := j) hi
  show f _ _ = _
  rw [x1, x2]
theorem mkR_eta (w h : Nat) (f : Nat → Nat → Int) : ∃ sp : List Int, mkR w h f = ⟨w, h, sp⟩ ∧ sp.length = w * h := ⟨_, rfl, by simp⟩
end

section
theorem u8_wf {n : Int} (h : (Lit.int .u8 n).wf = true) : 0 ≤ n ∧ n ≤ 255 := by
  simp [Lit.wf, IntKind.min, IntKind.max] at h
  first | exact h | (simp [IntKind.signed, IntKind.bits] at h; omega)
end

section
set_option maxRecDepth 20000
attribute [local go_sem] clPxT
abbrev cnC (l : List Int) : List AV := l.map fun x => I x
def cntL (l : List Int) : List Int := (List.range 256).map fun v : Nat => ((l.count (v : Int) : Nat) : Int)
theorem cntL_len (l : List Int) : (cntL l).length = 256 := by simp [cntL]
theorem cnC_len (l : List Int) : (cnC l).length = l.length := by simp [cnC]
theorem cnC_get (l : List Int) (i : Nat) : (cnC l)[i]? = (l[i]?).map fun x => I x := by simp [cnC]
theorem ze37 : zeT Tryd.prog 37 = some (List.replicate 256 (.int .i64 0)) := by kernel_rfl
theorem cnt0 : List.map AV.v (List.replicate 256 (.int .i64 0)) = cnC (cntL []) := by
  rw [List.map_replicate]
  unfold cnC cntL
  rw [List.map_map]
  refine List.ext_getElem? fun i => ?_
  by_cases hi : i < 256
  · rw [List.getElem?_replicate, if_pos hi, List.getElem?_map, List.getElem?_range hi]; rfl
  · rw [List.getElem?_replicate, if_neg hi, List.getElem?_eq_none (by simp; omega)]
theorem cnL (l : List Int) : (cnC (cntL l)).length = 256 := by rw [cnC_len, cntL_len]
theorem cnT (l : List Int) : List.take 256 (cnC (cntL l)) = cnC (cntL l) := List.take_of_length_le (by rw [cnL]; exact Nat.le_refl _)
theorem cnO (l : List Int) : (cnC l).all oneA = true := by
  rw [List.all_eq_true]
  intro x hx
  obtain ⟨y, _, rfl⟩ := List.mem_map.1 hx
  rfl
theorem cnF (H : Nat → Option Blk) (n : Nat) (l : List Int) : List.map (frzA H (n + 1)) (cnC l) = cnC l := by
  rw [List.map_map]; exact List.map_congr_left fun x _ => rfl
theorem cnF3 (H : Nat → Option Blk) (l : List Int) : List.map (frzA H 3) (cnC l) = cnC l := cnF H 2 l
theorem clCn (l : List Int) : ∀ s ∈ cnC l, Cl s := fun s hs => by
  obtain ⟨x, _, rfl⟩ := List.mem_map.1 hs
  exact .v _
theorem cnt_at {l : List Int} {v : Nat} (h : v < 256) : (cntL l)[v]? = some ((l.count (v : Int) : Nat) : Int) := by
  unfold cntL; rw [List.getElem?_map, List.getElem?_range h]; rfl
theorem cnt_snoc {l : List Int} {k v : Nat} (h : l[k]? = some (v : Int)) : (cnC (cntL (l.take k))).set v (I (((l.take k).count (v : Int) : Nat) + 1 : Int)) = cnC (cntL (l.take (k + 1))) := by
  refine List.ext_getElem? fun i => ?_
  by_cases hi : i < 256
  · rw [cnC_get, cnt_at hi, List.take_add_one, h, List.count_append]
    by_cases hv : v = i
    · subst hv
      rw [List.getElem?_set_self (by rw [cnC_len, cntL_len]; exact hi)]
      simp
    · rw [List.getElem?_set_ne hv, cnC_get, cnt_at hi]
      have : ¬ (v : Int) = (i : Int) := by omega
      simp [List.count_cons, this]
  · rw [List.getElem?_eq_none (by rw [List.length_set, cnC_len, cntL_len]; omega), List.getElem?_eq_none (by rw [cnC_len, cntL_len]; omega)]
def countP (r : Ra) : List Int × Int := if vaB r then (cntL r.p, 0) else (cntL [], 2)
abbrev CnA (x : List Int × Int) : AV := .t [.g (cnC x.1), I x.2]
theorem clCnA (x : List Int × Int) : Cl (CnA x) := by simp [Cl_t, Cl_g, Cl_v]
theorem clCn1 (l : List Int) : ∀ c ∈ [cnC l], ∀ s ∈ c, Cl s := fun c hc => by
  rw [List.mem_singleton.1 hc]; exact clCn _
theorem counts21 (r : Ra) (hok : okP r.p) : PFun Tryd.prog 21 [RaA r] (CnA (countP r)) := by
  have hv := valid62 r
  unfold countP
  by_cases hc : vaB r = true
  · rw [if_pos hc]
    obtain ⟨w, h, p, rfl, w1, w2, h1, h2, hlen⟩ := vaR_of hc
    have hN := prodN w2 h2
    show PFun Tryd.prog 21 _ (CnA (cntL p, 0))
    have L0 : (cnC (cntL [])).length = 256 := by rw [cnC_len, cntL_len]
    refine PFun.intro 400 mixed Tryd.func21 (by kernel_rfl) rfl (clCnA _) (Nat.le_of_ble_eq_true rfl) ?_; rw [Tryd.ntmps21, Tryd.results21]
    simp -dsimp -implicitDefEqProofs (maxSteps := 1000000) only [go_sem, ↓reduceIte, Nat.reduceAdd, Nat.reduceSub, Nat.reduceMul, Nat.reduceLT, Nat.reduceLeDiff, Nat.reduceEqDiff, Nat.reduceBEq, Nat.reduceBNe, Int.reduceToNat, Int.reduceLT, Int.reduceLE, Int.reduceNeg, reduceCtorEq, Int.reduceEq, Int.reduceNe, ze37, cnt0, L0]
    refine AtFn.pure0 hv ?_
    simp -dsimp -implicitDefEqProofs (maxSteps := 1000000) only [go_sem, ↓reduceIte, Nat.reduceAdd, Nat.reduceSub, Nat.reduceMul, Nat.reduceLT, Nat.reduceLeDiff, Nat.reduceEqDiff, Nat.reduceBEq, Nat.reduceBNe, Int.reduceToNat, Int.reduceLT, Int.reduceLE, Int.reduceNeg, reduceCtorEq, Int.reduceEq, Int.reduceNe, hc, pxC_len]
    refine ⟨{k : Nat // k ≤ p.length}, fun k => ⟨24, tl [(2, .ptr 1 0 0), (3, I 0), (11, .ro 1 (pxC p)), (12, I p.length), (13, I k.1)], [(1, ⟨256, [cnC (cntL (p.take k.1))]⟩), (0, ⟨3, [[I w, I h, .ro 1 (pxC p)]]⟩)], 2, .nil⟩, fun k => p.length - k.1,
      ⟨⟨0, by omega⟩, Le.tl (Ls := []) (y := none) [] (by simp -dsimp -implicitDefEqProofs (maxSteps := 1000000) only [go_sem, ↓reduceIte, Nat.reduceAdd, Nat.reduceSub, Nat.reduceMul, Nat.reduceLT, Nat.reduceLeDiff, Nat.reduceEqDiff, Nat.reduceBEq, Nat.reduceBNe, Int.reduceToNat, Int.reduceLT, Int.reduceLE, Int.reduceNeg, reduceCtorEq, Int.reduceEq, Int.reduceNe]) ?_ (by simp) (by simp [sg]) trivial⟩, fun k => ?_⟩
    · simp -dsimp -implicitDefEqProofs (maxSteps := 1000000) only [go_sem, ↓reduceIte, Nat.reduceAdd, Nat.reduceSub, Nat.reduceMul, Nat.reduceLT, Nat.reduceLeDiff, Nat.reduceEqDiff, Nat.reduceBEq, Nat.reduceBNe, Int.reduceToNat, Int.reduceLT, Int.reduceLE, Int.reduceNeg, reduceCtorEq, Int.reduceEq, Int.reduceNe]
      exact ⟨renL_cl2 rfl (clCn1 _), renL_F (by simp -dsimp -implicitDefEqProofs (maxSteps := 1000000) only [go_sem, ↓reduceIte, Nat.reduceAdd, Nat.reduceSub, Nat.reduceMul, Nat.reduceLT, Nat.reduceLeDiff, Nat.reduceEqDiff, Nat.reduceBEq, Nat.reduceBNe, Int.reduceToNat, Int.reduceLT, Int.reduceLE, Int.reduceNeg, reduceCtorEq, Int.reduceEq, Int.reduceNe])⟩
    obtain ⟨k, hk⟩ := k
    simp -dsimp -implicitDefEqProofs (maxSteps := 1000000) only [go_sem, ↓reduceIte, Nat.reduceAdd, Nat.reduceSub, Nat.reduceMul, Nat.reduceLT, Nat.reduceLeDiff, Nat.reduceEqDiff, Nat.reduceBEq, Nat.reduceBNe, Int.reduceToNat, Int.reduceLT, Int.reduceLE, Int.reduceNeg, reduceCtorEq, Int.reduceEq, Int.reduceNe]
    refine ⟨fun hk' => ?_, fun hout => ?_⟩
    · have hkl : k < p.length := by omega
      have ek := wrA1 (a := k) (by omega)
      obtain ⟨x, hx⟩ : ∃ x, p[k]? = some x := ⟨_, List.getElem?_eq_getElem hkl⟩
      obtain ⟨hx0, hx1⟩ := hok x (List.mem_of_getElem? hx)
      obtain ⟨x, rfl⟩ := Int.eq_ofNat_of_zero_le hx0
      have hg := cnt_at (l := p.take k) (show x < 256 by omega)
      have hbd : (p.take k).count (x : Int) ≤ k := Nat.le_trans List.count_le_length (by rw [List.length_take]; exact Nat.min_le_left _ _)
      have e1 : wr ((((p.take k).count (x : Int) : Nat) : Int) + 1) = (((p.take k).count (x : Int) : Nat) : Int) + 1 := wr_in (by omega) (by omega)
      have e2 : wr (x : Int) = x := wrN (by omega)
      have l1 : (x : Int) < 256 := by omega
      simp -dsimp -implicitDefEqProofs (maxSteps := 1000000) only [go_sem, ↓reduceIte, Nat.reduceAdd, Nat.reduceSub, Nat.reduceMul, Nat.reduceLT, Nat.reduceLeDiff, Nat.reduceEqDiff, Nat.reduceBEq, Nat.reduceBNe, Int.reduceToNat, Int.reduceLT, Int.reduceLE, Int.reduceNeg, reduceCtorEq, Int.reduceEq, Int.reduceNe, hx, pxC_get, Int.natCast_nonneg, Int.toNat_natCast, Nat.zero_add, hk', e2, l1, Nat.mul_one, cnC_get, hg]
      refine ⟨by rw [cnL]; omega, ⟨k + 1, by omega⟩, by show p.length - (k + 1) < p.length - k; omega, Le.tl (Ls := []) (y := none) [] (by simp -dsimp -implicitDefEqProofs (maxSteps := 1000000) only [go_sem, ↓reduceIte, Nat.reduceAdd, Nat.reduceSub, Nat.reduceMul, Nat.reduceLT, Nat.reduceLeDiff, Nat.reduceEqDiff, Nat.reduceBEq, Nat.reduceBNe, Int.reduceToNat, Int.reduceLT, Int.reduceLE, Int.reduceNeg, reduceCtorEq, Int.reduceEq, Int.reduceNe, ek]) ?_ (by simp) (by simp [sg]) trivial⟩
      simp -dsimp -implicitDefEqProofs (maxSteps := 1000000) only [go_sem, ↓reduceIte, Nat.reduceAdd, Nat.reduceSub, Nat.reduceMul, Nat.reduceLT, Nat.reduceLeDiff, Nat.reduceEqDiff, Nat.reduceBEq, Nat.reduceBNe, Int.reduceToNat, Int.reduceLT, Int.reduceLE, Int.reduceNeg, reduceCtorEq, Int.reduceEq, Int.reduceNe]
      refine ⟨renL_cl2 ?_ (clCn1 _), renL_F (by simp -dsimp -implicitDefEqProofs (maxSteps := 1000000) only [go_sem, ↓reduceIte, Nat.reduceAdd, Nat.reduceSub, Nat.reduceMul, Nat.reduceLT, Nat.reduceLeDiff, Nat.reduceEqDiff, Nat.reduceBEq, Nat.reduceBNe, Int.reduceToNat, Int.reduceLT, Int.reduceLE, Int.reduceNeg, reduceCtorEq, Int.reduceEq, Int.reduceNe])⟩
      rw [if_neg (by rw [cnL]; omega), e1, ← cnt_snoc hx, List.set_eq_take_append_cons_drop, if_pos (by rw [cnL]; omega)]
      simp
    · obtain rfl : k = p.length := by omega
      simp only [cnT, cnL, cnO, if_true, cnF3, List.take_length, true_and, and_true]
      omega
  · have hc' : vaB r = false := by simpa using hc
    rw [if_neg hc]
    obtain ⟨w, h, p⟩ := r
    have L0 : (cnC (cntL [])).length = 256 := by rw [cnC_len, cntL_len]
    refine PFun.intro 400 mixed Tryd.func21 (by kernel_rfl) rfl (clCnA _) (Nat.le_of_ble_eq_true rfl) ?_; rw [Tryd.ntmps21, Tryd.results21]
    simp -dsimp -implicitDefEqProofs (maxSteps := 1000000) only [go_sem, ↓reduceIte, Nat.reduceAdd, Nat.reduceSub, Nat.reduceMul, Nat.reduceLT, Nat.reduceLeDiff, Nat.reduceEqDiff, Nat.reduceBEq, Nat.reduceBNe, Int.reduceToNat, Int.reduceLT, Int.reduceLE, Int.reduceNeg, reduceCtorEq, Int.reduceEq, Int.reduceNe, ze37, cnt0, L0]
    refine AtFn.pure0 hv ?_
    simp -dsimp -implicitDefEqProofs (maxSteps := 1000000) only [go_sem, ↓reduceIte, Nat.reduceAdd, Nat.reduceSub, Nat.reduceMul, Nat.reduceLT, Nat.reduceLeDiff, Nat.reduceEqDiff, Nat.reduceBEq, Nat.reduceBNe, Int.reduceToNat, Int.reduceLT, Int.reduceLE, Int.reduceNeg, reduceCtorEq, Int.reduceEq, Int.reduceNe, hc', L0]
    simp only [cnT, cnL, cnO, if_true, cnF3, true_and, and_true]
    omega
end

section
set_option maxRecDepth 20000
attribute [local go_sem] clPxT eqk34'
theorem eqk37 : EqK Tryd.prog 37 256 := by
  obtain ⟨i, hi⟩ := info3
  exact EqK.arr (by kernel_rfl) (by kernel_rfl) hi (by kernel_rfl) (by kernel_rfl) agg3
theorem intsA_cn : ∀ l : List Int, intsA (cnC l) = some l
  | [] => rfl
  | x :: l => by
    show (intsA (cnC l)).map (x :: ·) = _
    rw [intsA_cn l]; rfl
end

section
set_option maxRecDepth 20000
theorem flat_get {α : Type} {f : α → List UInt8} {n : Nat} : ∀ {L : List α}, (∀ x ∈ L, (f x).length = n) → ∀ {k c : Nat} {x : α}, L[k]? = some x → c < n → (L.flatMap f)[k * n + c]? = (f x)[c]?
  | [], _, k, c, x, h, _ => by simp at h
  | a :: L, hl, k, c, x, h, hc => by
    rw [List.flatMap_cons]
    have ha := hl a List.mem_cons_self
    cases k with
    | zero =>
      have : a = x := Option.some.inj h
      subst this
      rw [List.getElem?_append_left (by omega), Nat.zero_mul, Nat.zero_add]
    | succ k =>
      rw [List.getElem?_append_right (by rw [ha, Nat.succ_mul]; omega), ha, show (k + 1) * n + c - n = k * n + c by rw [Nat.succ_mul]; omega]
      exact flat_get (fun x hx => hl x (List.mem_cons_of_mem _ hx)) (by simpa using h) hc
structure TxS (w h : Nat) (p : List Int) (S : List UInt8) : Prop where
  w1 : 1 ≤ w
  w2 : w ≤ 256
  h1 : 1 ≤ h
  h2 : h ≤ 256
  len : p.length = w * h
  ok : okP p
  txt : (rowsP w p).flatMap rowT = S
theorem TxS.rows {w h : Nat} {p : List Int} {S : List UInt8} (H : TxS w h p S) : ∀ k, k < h → (rowsP w p)[k]? = some ((p.drop ((h - 1 - k) * w)).take w) := fun k hk => rowsP_get H.w1 H.len hk
theorem TxS.rlen {w h : Nat} {p : List Int} {S : List UInt8} (H : TxS w h p S) : (rowsP w p).length = h := rowsP_len H.w1 H.len
theorem TxS.each {w h : Nat} {p : List Int} {S : List UInt8} (H : TxS w h p S) : ∀ r ∈ rowsP w p, r.length = w ∧ okP r := fun r hr => by
  obtain ⟨k, hk⟩ := List.getElem?_of_mem hr
  have hkl : k < (rowsP w p).length := (List.getElem?_eq_some_iff.1 hk).1
  rw [H.rlen] at hkl
  rw [H.rows k hkl] at hk
  rw [← Option.some.inj hk]
  exact ⟨row_len H.len hkl, fun x hx => H.ok x (List.mem_of_mem_drop (List.mem_of_mem_take hx))⟩
theorem TxS.text {w h : Nat} {p : List Int} {S : List UInt8} (H : TxS w h p S) : textP ⟨w, h, p⟩ = (S, 0) := by
  unfold textP
  rw [if_pos (vaB_mk H.w1 H.w2 H.h1 H.h2 H.len)]
  show ((rowsP w p).flatMap rowT, (0 : Int)) = _
  rw [H.txt]
end

section
def sumN : Nat → (Nat → Nat) → Nat
  | 0, _ => 0
  | n + 1, g => sumN n g + g n
theorem sumN_s (n : Nat) (g : Nat → Nat) : sumN (n + 1) g = sumN n g + g n := rfl
theorem sumN_congr : ∀ {n : Nat} {f g : Nat → Nat}, (∀ i, i < n → f i = g i) → sumN n f = sumN n g
  | 0, _, _, _ => rfl
  | n + 1, f, g, h => by rw [sumN_s, sumN_s, sumN_congr (fun i hi => h i (by omega)), h n (by omega)]
theorem sumN_0 (n : Nat) : sumN n (fun _ => 0) = 0 := by
  induction n with
  | zero => rfl
  | succ n ih => rw [sumN_s, ih]
theorem sumN_add (n : Nat) (f g : Nat → Nat) : sumN n (fun i => f i + g i) = sumN n f + sumN n g := by
  induction n with
  | zero => rfl
  | succ n ih => rw [sumN_s, sumN_s, sumN_s, ih]; omega
theorem sumN_swap (n m : Nat) (f : Nat → Nat → Nat) : sumN n (fun j => sumN m (fun i => f i j)) = sumN m (fun i => sumN n (fun j => f i j)) := by
  induction n with
  | zero => exact (sumN_0 m).symm
  | succ n ih =>
    rw [sumN_s, ih, ← sumN_add]
    exact sumN_congr fun i _ => rfl
theorem sumN_split (a : Nat) (g : Nat → Nat) : ∀ b, sumN (a + b) g = sumN a g + sumN b (fun i => g (a + i))
  | 0 => by show sumN a g = sumN a g + 0; rw [Nat.add_zero]
  | b + 1 => by
    rw [show a + (b + 1) = (a + b) + 1 by omega, sumN_s, sumN_s, sumN_split a g b]; omega
theorem sumN_s' (n : Nat) (g : Nat → Nat) : sumN (n + 1) g = g 0 + sumN n (fun i => g (i + 1)) := by
  rw [show n + 1 = 1 + n by omega, sumN_split]
  show 0 + g 0 + _ = _
  rw [Nat.zero_add]
  congr 1
  exact sumN_congr fun i _ => by rw [Nat.add_comm]
theorem sumN_rev : ∀ (n : Nat) (g : Nat → Nat), sumN n (fun i => g (n - 1 - i)) = sumN n g
  | 0, _ => rfl
  | n + 1, g => by
    rw [sumN_s', sumN_s, Nat.add_comm]
    congr 1
    rw [← sumN_rev n g]
    exact sumN_congr fun i hi => by rw [show n + 1 - 1 - (i + 1) = n - 1 - i by omega]
theorem sumN_sub {n x c : Nat} {g : Nat → Nat} (h : x + c ≤ n) (h0 : ∀ i, i < n → i < x ∨ x + c ≤ i → g i = 0) : sumN n g = sumN c (fun i => g (x + i)) := by
  obtain ⟨d, rfl⟩ : ∃ d, n = x + (c + d) := ⟨n - (x + c), by omega⟩
  rw [sumN_split, sumN_congr (n := x) (g := fun _ => 0) (fun i hi => h0 i (by omega) (Or.inl hi)), sumN_0, sumN_split, Nat.zero_add, sumN_congr (n := d) (g := fun _ => 0) (fun i hi => h0 _ (by omega) (Or.inr (by omega))), sumN_0]
  rfl
theorem count_map (c : Int) (g : Nat → Int) : ∀ n, ((List.range n).map g).count c = sumN n (fun i => if g i = c then 1 else 0)
  | 0 => rfl
  | n + 1 => by
    rw [List.range_succ, List.map_append, List.count_append, count_map c g n, sumN_s]
    congr 1
    by_cases h : g n = c <;> simp [h]
theorem count_mk (w : Nat) (hw : 1 ≤ w) (f : Nat → Nat → Int) (c : Int) : ∀ h, (mkR w h f).p.count c = sumN h (fun j => sumN w (fun i => if f i j = c then 1 else 0))
  | 0 => by simp [mkR, sumN]
  | h + 1 => by
    have ih := count_mk w hw f c h
    unfold mkR at ih ⊢
    simp only at ih ⊢
    rw [Nat.mul_succ, List.range_add, List.map_append, List.count_append, ih, sumN_s, List.map_map, count_map]
    congr 1
    refine sumN_congr fun i hi => ?_
    obtain ⟨x1, x2⟩ := at_idx (w := w) (i := i) (j := h) hi
    show (if f ((w * h + i) % w) ((w * h + i) / w) = c then 1 else 0) = _
    rw [Nat.mul_comm w h, x1, x2]
theorem mk_eta {w h : Nat} {p : List Int} (hl : p.length = w * h) : (mkR w h (px p w)).p = p := by
  refine Eq.trans (List.map_congr_left fun k _ => ?_) (rangeGet hl)
  show px p w (k % w) (k / w) = _
  unfold px
  rw [Nat.div_add_mod']
abbrev ink1 (p : List Int) (w : Nat) (c : Int) (i j : Nat) : Nat := if px p w i j = c then 1 else 0
theorem count_p {w h : Nat} {p : List Int} (hw : 1 ≤ w) (hl : p.length = w * h) (c : Int) : p.count c = sumN h (fun j => sumN w (fun i => ink1 p w c i j)) := by
  conv => lhs; rw [← mk_eta hl]
  exact count_mk w hw _ c h
theorem count_turn {w h : Nat} {p : List Int} (hw : 1 ≤ w) (hh : 1 ≤ h) (hl : p.length = w * h) (c : Int) : (mkR h w fun i j => px p w j (h - 1 - i)).p.count c = p.count c := by
  rw [count_mk h hh, count_p hw hl c, sumN_swap h w]
  exact sumN_congr fun i _ => sumN_rev h fun j => ink1 p w c i j
theorem count_mirror {w h : Nat} {p : List Int} (hw : 1 ≤ w) (hl : p.length = w * h) (c : Int) : (mkR w h fun i j => px p w (w - 1 - i) j).p.count c = p.count c := by
  rw [count_mk w hw, count_p hw hl c]
  exact sumN_congr fun j _ => sumN_rev w fun i => ink1 p w c i j
theorem inv_ink {x v : Int} (hx : 0 ≤ x ∧ x ≤ 255) (hv : 0 ≤ v ∧ v ≤ 255) : IntKind.u8.wrap (255 - x) = 255 - v ↔ x = v := by
  rw [u8_ink (by simp [inkB]; omega)]; omega
theorem count_invert {w h : Nat} {p : List Int} (hw : 1 ≤ w) (hl : p.length = w * h) (hok : okP p) {v : Int} (hv : 0 ≤ v ∧ v ≤ 255) : (mkR w h fun i j => IntKind.u8.wrap (255 - px p w i j)).p.count (255 - v) = p.count v := by
  rw [count_mk w hw, count_p hw hl v]
  refine sumN_congr fun j _ => sumN_congr fun i _ => ?_
  unfold ink1
  have := inv_ink (px_ok hok w i j) hv
  by_cases h : px p w i j = v
  · rw [if_pos h, if_pos (this.2 h)]
  · rw [if_neg h, if_neg (fun e => h (this.1 e))]
theorem count_sum' (N : Nat) : ∀ {p : List Int}, (∀ x ∈ p, 0 ≤ x ∧ x < (N : Int)) → sumN N (fun v => p.count (v : Int)) = p.length
  | [], _ => sumN_0 N
  | a :: p, h => by
    have ih := count_sum' N (p := p) (fun x hx => h x (List.mem_cons_of_mem _ hx))
    obtain ⟨h0, h1⟩ := h a List.mem_cons_self
    obtain ⟨k, rfl⟩ := Int.eq_ofNat_of_zero_le h0
    rw [sumN_congr (g := fun v => p.count (v : Int) + if v = k then 1 else 0) (fun v _ => by
      rw [List.count_cons]
      by_cases e : v = k
      · subst e; simp
      · have : ¬ (k : Int) = (v : Int) := by omega
        simp [e, this]), sumN_add, ih, List.length_cons]
    congr 1
    rw [sumN_sub (n := N) (x := k) (c := 1) (by omega) (fun i _ hi => if_neg (by omega))]
    show 0 + (if k + 0 = k then 1 else 0) = 1
    simp
theorem count_sum {p : List Int} (h : okP p) : sumN 256 (fun v => p.count (v : Int)) = p.length := count_sum' 256 fun x hx => ⟨(h x hx).1, by have := (h x hx).2; omega⟩
theorem count_crop {w h : Nat} {p : List Int} {x y a b : Nat} (hw : 1 ≤ w) (ha : 1 ≤ a) (hl : p.length = w * h) (hxa : x + a ≤ w) (hyb : y + b ≤ h) {c : Int}
    (h0 : ∀ i j, i < w → j < h → px p w i j = c → x ≤ i ∧ i < x + a ∧ y ≤ j ∧ j < y + b) : (mkR a b fun i j => px p w (x + i) (y + j)).p.count c = p.count c := by
  rw [count_mk a ha, count_p hw hl c, sumN_sub (n := h) (x := y) (c := b) hyb]
  · refine sumN_congr fun j hj => ?_
    rw [sumN_sub (n := w) (x := x) (c := a) hxa]
    intro i hi hout
    refine if_neg fun e => ?_
    have := h0 i (y + j) hi (by omega) e
    omega
  · intro j hj hout
    rw [sumN_congr (g := fun _ => 0), sumN_0]
    intro i hi
    refine if_neg fun e => ?_
    have := h0 i j hi hj e
    omega
end

section
structure BxK (w : Nat) (p : List Int) (n x y X Y : Nat) : Prop where
  xX : x ≤ X
  yY : y ≤ Y
  all : ∀ k, k < n → ¬ p.getD k 0 = 0 → x ≤ k % w ∧ k % w ≤ X ∧ y ≤ k / w ∧ k / w ≤ Y
  t1 : ∃ k, k < n ∧ ¬ p.getD k 0 = 0 ∧ k % w = x
  t2 : ∃ k, k < n ∧ ¬ p.getD k 0 = 0 ∧ k / w = y
  t3 : ∃ k, k < n ∧ ¬ p.getD k 0 = 0 ∧ k % w = X
  t4 : ∃ k, k < n ∧ ¬ p.getD k 0 = 0 ∧ k / w = Y
theorem boxF_inv {w h : Nat} {p : List Int} : ∀ n, n ≤ w * h → ((∀ k, k < n → p.getD k 0 = 0) ∧ boxF w h p n = ((w : Int), (h : Int), -1, -1)) ∨ ∃ x y X Y : Nat, boxF w h p n = ((x : Int), (y : Int), (X : Int), (Y : Int)) ∧ BxK w p n x y X Y
  | 0, _ => Or.inl ⟨fun k hk => by omega, rfl⟩
  | n + 1, hn => by
    have ih := boxF_inv (w := w) (h := h) (p := p) n (by omega)
    have m := mod_lt2 (show n < w * h by omega)
    rw [boxF]
    by_cases h0 : p.getD n 0 = 0
    · rw [if_pos h0]
      rcases ih with ⟨h1, h2⟩ | ⟨x, y, X, Y, e, B⟩
      · left
        refine ⟨fun k hk => ?_, h2⟩
        by_cases hkn : k = n
        · rw [hkn]; exact h0
        · exact h1 k (by omega)
      · right
        refine ⟨x, y, X, Y, e, B.xX, B.yY, fun k hk hne => ?_, ?_, ?_, ?_, ?_⟩
        · by_cases hkn : k = n
          · rw [hkn] at hne; exact absurd h0 hne
          · exact B.all k (by omega) hne
        · obtain ⟨k, h1, h2⟩ := B.t1; exact ⟨k, by omega, h2⟩
        · obtain ⟨k, h1, h2⟩ := B.t2; exact ⟨k, by omega, h2⟩
        · obtain ⟨k, h1, h2⟩ := B.t3; exact ⟨k, by omega, h2⟩
        · obtain ⟨k, h1, h2⟩ := B.t4; exact ⟨k, by omega, h2⟩
    · rw [if_neg h0]
      right
      obtain ⟨i, hi⟩ : ∃ i, n % w = i := ⟨_, rfl⟩
      obtain ⟨j, hj⟩ : ∃ j, n / w = j := ⟨_, rfl⟩
      rw [hi, hj] at m
      rw [hi, hj]
      rcases ih with ⟨h1, h2⟩ | ⟨x, y, X, Y, e, B⟩
      · rw [h2]
        refine ⟨i, j, i, j, ?_, Nat.le_refl _, Nat.le_refl _, fun k hk hne => ?_, ⟨n, by omega, h0, hi⟩, ⟨n, by omega, h0, hj⟩, ⟨n, by omega, h0, hi⟩, ⟨n, by omega, h0, hj⟩⟩
        · show (min (w : Int) (i : Int), min (h : Int) (j : Int), max (-1) (i : Int), max (-1) (j : Int)) = _
          rw [show min (w : Int) (i : Int) = i by omega, show min (h : Int) (j : Int) = j by omega, show max (-1) (i : Int) = i by omega, show max (-1) (j : Int) = j by omega]
        · by_cases hkn : k = n
          · rw [hkn, hi, hj]; omega
          · exact absurd (h1 k (by omega)) hne
      · rw [e]
        refine ⟨min x i, min y j, max X i, max Y j, ?_, ?_, ?_, fun k hk hne => ?_, ?_, ?_, ?_, ?_⟩
        · show (min (x : Int) (i : Int), min (y : Int) (j : Int), max (X : Int) (i : Int), max (Y : Int) (j : Int)) = _
          rw [show min (x : Int) (i : Int) = ((min x i : Nat) : Int) by omega, show min (y : Int) (j : Int) = ((min y j : Nat) : Int) by omega, show max (X : Int) (i : Int) = ((max X i : Nat) : Int) by omega, show max (Y : Int) (j : Int) = ((max Y j : Nat) : Int) by omega]
        · have := B.xX; omega
        · have := B.yY; omega
        · by_cases hkn : k = n
          · rw [hkn, hi, hj]; omega
          · have := B.all k (by omega) hne
            generalize k % w = a at *
            generalize k / w = b at *
            omega
        · obtain ⟨k, h1, h2, h3⟩ := B.t1
          by_cases hc : x ≤ i
          · exact ⟨k, by omega, h2, by rw [h3]; omega⟩
          · exact ⟨n, by omega, h0, by rw [hi]; omega⟩
        · obtain ⟨k, h1, h2, h3⟩ := B.t2
          by_cases hc : y ≤ j
          · exact ⟨k, by omega, h2, by rw [h3]; omega⟩
          · exact ⟨n, by omega, h0, by rw [hj]; omega⟩
        · obtain ⟨k, h1, h2, h3⟩ := B.t3
          by_cases hc : i ≤ X
          · exact ⟨k, by omega, h2, by rw [h3]; omega⟩
          · exact ⟨n, by omega, h0, by rw [hi]; omega⟩
        · obtain ⟨k, h1, h2, h3⟩ := B.t4
          by_cases hc : j ≤ Y
          · exact ⟨k, by omega, h2, by rw [h3]; omega⟩
          · exact ⟨n, by omega, h0, by rw [hj]; omega⟩
theorem px_k {w k : Nat} {p : List Int} : p.getD k 0 = px p w (k % w) (k / w) := by unfold px; rw [Nat.div_add_mod']
/-- The box of a valid raster: none, or this. -/
structure BxP (w h : Nat) (p : List Int) (x y a b : Nat) : Prop where
  a1 : 1 ≤ a
  b1 : 1 ≤ b
  xa : x + a ≤ w
  yb : y + b ≤ h
  all : ∀ i j, i < w → j < h → ¬ px p w i j = 0 → x ≤ i ∧ i < x + a ∧ y ≤ j ∧ j < y + b
  t1 : ∃ j, j < h ∧ ¬ px p w x j = 0
  t2 : ∃ i, i < w ∧ ¬ px p w i y = 0
  t3 : ∃ j, j < h ∧ ¬ px p w (x + a - 1) j = 0
  t4 : ∃ i, i < w ∧ ¬ px p w i (y + b - 1) = 0
theorem box_shape {w h : Nat} {p : List Int} (w1 : 1 ≤ w) (w2 : w ≤ 256) (h1 : 1 ≤ h) (h2 : h ≤ 256) (hl : p.length = w * h) :
    (boxP ⟨w, h, p⟩ = ((0, 0, 0, 0), 4) ∧ ∀ k, k < p.length → p.getD k 0 = 0) ∨ ∃ x y a b : Nat, boxP ⟨w, h, p⟩ = (((x : Int), (y : Int), (a : Int), (b : Int)), 0) ∧ BxP w h p x y a b := by
  have hv : vaB ⟨w, h, p⟩ = true := vaB_mk w1 w2 h1 h2 hl
  have e0 : boxP ⟨w, h, p⟩ = boxE (boxF w h p p.length) := by unfold boxP; rw [if_pos hv]; rfl
  rw [e0]
  rcases boxF_inv (w := w) (h := h) (p := p) p.length (by omega) with ⟨h1, h2⟩ | ⟨x, y, X, Y, e, B⟩
  · left
    rw [h2]
    exact ⟨rfl, h1⟩
  · right
    have lim : ∀ k, k < p.length → k % w < w ∧ k / w < h := fun k hk => mod_lt2 (hl ▸ hk)
    have hX : X < w := by obtain ⟨k, q1, _, q3⟩ := B.t3; have := (lim k q1).1; rw [q3] at this; exact this
    have hY : Y < h := by obtain ⟨k, q1, _, q3⟩ := B.t4; have := (lim k q1).2; rw [q3] at this; exact this
    have xX := B.xX
    have yY := B.yY
    refine ⟨x, y, X - x + 1, Y - y + 1, ?_, by omega, by omega, by omega, by omega, fun i j hi hj hne => ?_, ?_, ?_, ?_, ?_⟩
    · rw [e]
      unfold boxE
      simp only
      have z1 : wr ((X : Int) - x) = ((X - x : Nat) : Int) := by rw [wr_in] <;> omega
      have z2 : wr ((Y : Int) - y) = ((Y - y : Nat) : Int) := by rw [wr_in] <;> omega
      rw [if_neg (by omega), z1, z2, wrA1 (by omega), wrA1 (by omega)]
    · obtain ⟨x1, x2⟩ := at_idx (w := w) (j := j) hi
      have := B.all (j * w + i) (by have := idx_lt (h := h) hi hj; omega) hne
      rw [x1, x2] at this
      omega
    · obtain ⟨k, q1, q2, q3⟩ := B.t1
      rw [px_k (w := w), q3] at q2
      exact ⟨k / w, (lim k q1).2, q2⟩
    · obtain ⟨k, q1, q2, q3⟩ := B.t2
      rw [px_k (w := w), q3] at q2
      exact ⟨k % w, (lim k q1).1, q2⟩
    · obtain ⟨k, q1, q2, q3⟩ := B.t3
      rw [px_k (w := w), q3] at q2
      exact ⟨k / w, (lim k q1).2, by rw [show x + (X - x + 1) - 1 = X by omega]; exact q2⟩
    · obtain ⟨k, q1, q2, q3⟩ := B.t4
      rw [px_k (w := w), q3] at q2
      exact ⟨k % w, (lim k q1).1, by rw [show y + (Y - y + 1) - 1 = Y by omega]; exact q2⟩
theorem box_crop {w h : Nat} {p : List Int} {x y a b : Nat} (w2 : w ≤ 256) (h2 : h ≤ 256) (B : BxP w h p x y a b) : boxP (mkR a b fun i j => px p w (x + i) (y + j)) = (((0 : Int), (0 : Int), (a : Int), (b : Int)), 0) := by
  have a1 := B.a1
  have b1 := B.b1
  have xa := B.xa
  have yb := B.yb
  obtain ⟨sp, hsp, hsl⟩ := mkR_eta a b (fun i j => px p w (x + i) (y + j))
  have hpx : ∀ i j, i < a → j < b → px sp a i j = px p w (x + i) (y + j) := fun i j hi hj => by
    have := px_mk (f := fun i j => px p w (x + i) (y + j)) hi hj
    rwa [hsp] at this
  rw [hsp]
  have ne1 : ∃ j', j' < b ∧ ¬ px sp a 0 j' = 0 := by
    obtain ⟨j, hj, hne⟩ := B.t1
    have := B.all x j (by omega) hj hne
    refine ⟨j - y, by omega, ?_⟩
    rw [hpx 0 (j - y) (by omega) (by omega), Nat.add_zero, show y + (j - y) = j by omega]; exact hne
  have ne2 : ∃ i', i' < a ∧ ¬ px sp a i' 0 = 0 := by
    obtain ⟨i, hi, hne⟩ := B.t2
    have := B.all i y hi (by omega) hne
    refine ⟨i - x, by omega, ?_⟩
    rw [hpx (i - x) 0 (by omega) (by omega), Nat.add_zero, show x + (i - x) = i by omega]; exact hne
  have ne3 : ∃ j', j' < b ∧ ¬ px sp a (a - 1) j' = 0 := by
    obtain ⟨j, hj, hne⟩ := B.t3
    have := B.all (x + a - 1) j (by omega) hj hne
    refine ⟨j - y, by omega, ?_⟩
    rw [hpx (a - 1) (j - y) (by omega) (by omega), show x + (a - 1) = x + a - 1 by omega, show y + (j - y) = j by omega]; exact hne
  have ne4 : ∃ i', i' < a ∧ ¬ px sp a i' (b - 1) = 0 := by
    obtain ⟨i, hi, hne⟩ := B.t4
    have := B.all i (y + b - 1) hi (by omega) hne
    refine ⟨i - x, by omega, ?_⟩
    rw [hpx (i - x) (b - 1) (by omega) (by omega), show x + (i - x) = i by omega, show y + (b - 1) = y + b - 1 by omega]; exact hne
  rcases box_shape (w := a) (h := b) (p := sp) a1 (by omega) b1 (by omega) hsl with ⟨_, h0⟩ | ⟨x', y', a', b', e, C⟩
  · exfalso
    obtain ⟨j, hj, hne⟩ := ne1
    exact hne (h0 (j * a + 0) (by rw [hsl]; exact idx_lt (by omega) hj))
  · rw [e]
    obtain ⟨j, hj, q1⟩ := ne1
    obtain ⟨i, hi, q2⟩ := ne2
    obtain ⟨j3, hj3, q3⟩ := ne3
    obtain ⟨i4, hi4, q4⟩ := ne4
    have c1 := C.all 0 j (by omega) hj q1
    have c2 := C.all i 0 hi (by omega) q2
    have c3 := C.all (a - 1) j3 (by omega) hj3 q3
    have c4 := C.all i4 (b - 1) hi4 (by omega) q4
    have c5 := C.xa
    have c6 := C.yb
    obtain rfl : x' = 0 := by omega
    obtain rfl : y' = 0 := by omega
    obtain rfl : a' = a := by omega
    obtain rfl : b' = b := by omega
    rfl
end

section
set_option maxRecDepth 20000
attribute [local go_sem] clPxT eqk34'
theorem cnt_ext {p q : List Int} (h : ∀ v : Nat, v < 256 → p.count (v : Int) = q.count (v : Int)) : cntL p = cntL q := by
  unfold cntL
  exact List.map_congr_left fun v hv => by rw [h v (List.mem_range.1 hv)]
def ps (p : List Int) (k : Nat) : Nat := sumN k (fun v => p.count (v : Int))
theorem ps_s (p : List Int) (k : Nat) : ps p (k + 1) = ps p k + p.count (k : Int) := rfl
theorem ps_le {p : List Int} (h : okP p) {k : Nat} (hk : k ≤ 256) : ps p k ≤ p.length := by
  have e := sumN_split k (fun v => p.count (v : Int)) (256 - k)
  rw [show k + (256 - k) = 256 by omega, count_sum h] at e
  unfold ps
  omega
theorem cnS (l : List Int) : (if 1 = (cnC (cntL l)).length then [AV.v (Value.int IntKind.i64 0)] else AV.v (Value.int IntKind.i64 0) :: List.drop 1 (cnC (cntL l))) = cnC ((cntL l).set 0 0) := by
  rw [if_neg (by rw [cnL]; omega)]
  show _ = List.map (fun x => I x) ((cntL l).set 0 0)
  rw [List.map_set]
  show _ = (cnC (cntL l)).set 0 (I 0)
  have := cnL l
  cases h : cnC (cntL l) with
  | nil => rw [h] at this; simp at this
  | cons x r => rfl
theorem cnSL (l : List Int) : (cnC ((cntL l).set 0 0)).length = 256 := by rw [cnC_len, List.length_set, cntL_len]
theorem cnSN (l : List Int) : ((cntL l).set 0 0).length = 256 := by rw [List.length_set, cntL_len]
theorem cnST (l : List Int) : List.take 256 (cnC ((cntL l).set 0 0)) = cnC ((cntL l).set 0 0) := List.take_of_length_le (by rw [cnSL]; exact Nat.le_refl _)
theorem counts9 (r : Ra) (hok : okP r.p) : PFun Tryd.prog 9 [RaA r] (Bo true) := by
  have hv := valid27 r
  refine PFun.intro 400 mixed Tryd.func9 (by kernel_rfl) rfl (by first | exact .v _ | (simp [Cl_v, Cl_t, Cl_g, Cl_fn, Cl_rp, Cl_ro]; done) | (simp [Cl_v, Cl_t, Cl_g, Cl_fn, Cl_rp, Cl_ro, or_imp, forall_and]; done) | (split <;> simp [Cl_v, Cl_t, Cl_g, Cl_fn, Cl_rp, Cl_ro])) (Nat.le_of_ble_eq_true rfl) ?_; rw [Tryd.ntmps9, Tryd.results9]
  simp -dsimp -implicitDefEqProofs (maxSteps := 1000000) only [go_sem, ↓reduceIte, Nat.reduceAdd, Nat.reduceSub, Nat.reduceMul, Nat.reduceLT, Nat.reduceLeDiff, Nat.reduceEqDiff, Nat.reduceBEq, Nat.reduceBNe, Int.reduceToNat, Int.reduceLT, Int.reduceLE, Int.reduceNeg, reduceCtorEq, Int.reduceEq, Int.reduceNe]
  refine AtFn.pure (few1 r) ?_
  simp -dsimp -implicitDefEqProofs (maxSteps := 1000000) only [go_sem, ↓reduceIte, Nat.reduceAdd, Nat.reduceSub, Nat.reduceMul, Nat.reduceLT, Nat.reduceLeDiff, Nat.reduceEqDiff, Nat.reduceBEq, Nat.reduceBNe, Int.reduceToNat, Int.reduceLT, Int.reduceLE, Int.reduceNeg, reduceCtorEq, Int.reduceEq, Int.reduceNe]
  refine ⟨fun hl => ?_, fun hl => ?_⟩
  rotate_left
  · refine AtFn.pure0 awake13 ?_
    simp -dsimp -implicitDefEqProofs (maxSteps := 1000000) only [go_sem, ↓reduceIte, Nat.reduceAdd, Nat.reduceSub, Nat.reduceMul, Nat.reduceLT, Nat.reduceLeDiff, Nat.reduceEqDiff, Nat.reduceBEq, Nat.reduceBNe, Int.reduceToNat, Int.reduceLT, Int.reduceLE, Int.reduceNeg, reduceCtorEq, Int.reduceEq, Int.reduceNe]
  refine AtFn.pure0 hv ?_
  by_cases hc : vaB r = true
  rotate_left
  · have hc' : vaB r = false := by simpa using hc
    simp -dsimp -implicitDefEqProofs (maxSteps := 1000000) only [go_sem, ↓reduceIte, Nat.reduceAdd, Nat.reduceSub, Nat.reduceMul, Nat.reduceLT, Nat.reduceLeDiff, Nat.reduceEqDiff, Nat.reduceBEq, Nat.reduceBNe, Int.reduceToNat, Int.reduceLT, Int.reduceLE, Int.reduceNeg, reduceCtorEq, Int.reduceEq, Int.reduceNe, hc']
    refine AtFn.pure0 awake13 ?_
    simp -dsimp -implicitDefEqProofs (maxSteps := 1000000) only [go_sem, ↓reduceIte, Nat.reduceAdd, Nat.reduceSub, Nat.reduceMul, Nat.reduceLT, Nat.reduceLeDiff, Nat.reduceEqDiff, Nat.reduceBEq, Nat.reduceBNe, Int.reduceToNat, Int.reduceLT, Int.reduceLE, Int.reduceNeg, reduceCtorEq, Int.reduceEq, Int.reduceNe]
  simp -dsimp -implicitDefEqProofs (maxSteps := 1000000) only [go_sem, ↓reduceIte, Nat.reduceAdd, Nat.reduceSub, Nat.reduceMul, Nat.reduceLT, Nat.reduceLeDiff, Nat.reduceEqDiff, Nat.reduceBEq, Nat.reduceBNe, Int.reduceToNat, Int.reduceLT, Int.reduceLE, Int.reduceNeg, reduceCtorEq, Int.reduceEq, Int.reduceNe, hc]
  obtain ⟨w, h, p, rfl, w1, w2, h1, h2, hlen⟩ := vaR_of hc
  have hN := prodN w2 h2
  obtain ⟨tp, etp, htl⟩ := mkR_eta h w (fun i j => px p w j (h - 1 - i))
  obtain ⟨mp, emp, hml⟩ := mkR_eta w h (fun i j => px p w (w - 1 - i) j)
  obtain ⟨vp, evp, hvl⟩ := mkR_eta w h (fun i j => IntKind.u8.wrap (255 - px p w i j))
  have c1 := counts21 ⟨w, h, p⟩ hok
  have c2 := turn42 ⟨w, h, p⟩
  have c3 := mirror43 ⟨w, h, p⟩
  have c4 := invert44 ⟨w, h, p⟩
  have o2 : turnP ⟨w, h, p⟩ = (⟨h, w, tp⟩, 0) := by unfold turnP; rw [if_pos hc]; exact congrArg (fun q => (q, (0 : Int))) etp
  have o3 : mirrorP ⟨w, h, p⟩ = (⟨w, h, mp⟩, 0) := by unfold mirrorP; rw [if_pos hc]; exact congrArg (fun q => (q, (0 : Int))) emp
  have o4 : invertP ⟨w, h, p⟩ = (⟨w, h, vp⟩, 0) := by unfold invertP; rw [if_pos hc]; exact congrArg (fun q => (q, (0 : Int))) evp
  have k2 := ok_turn (r := ⟨w, h, p⟩) hok
  have k3 := ok_mirror (r := ⟨w, h, p⟩) hok
  have k4 := ok_invert ⟨w, h, p⟩
  rw [o2] at c2 k2
  rw [o3] at c3 k3
  rw [o4] at c4 k4
  have c5 := counts21 ⟨h, w, tp⟩ k2
  have c6 := counts21 ⟨w, h, mp⟩ k3
  have c7 := counts21 ⟨w, h, vp⟩ k4
  have cp : ∀ {w' h' : Nat} {p' : List Int}, vaB ⟨w', h', p'⟩ = true → countP ⟨w', h', p'⟩ = (cntL p', 0) := fun h => by unfold countP; rw [if_pos h]
  rw [cp hc] at c1
  rw [cp (vaB_mk h1 h2 w1 w2 htl)] at c5
  rw [cp (vaB_mk w1 w2 h1 h2 hml)] at c6
  rw [cp (vaB_mk w1 w2 h1 h2 hvl)] at c7
  have q5 : cntL tp = cntL p := cnt_ext fun v _ => by have := count_turn w1 h1 hlen (v : Int); rwa [etp] at this
  have q6 : cntL mp = cntL p := cnt_ext fun v _ => by have := count_mirror w1 hlen (v : Int); rwa [emp] at this
  have q7 : ∀ v : Nat, v < 256 → vp.count ((255 - v : Nat) : Int) = p.count (v : Int) := fun v hv => by
    have := count_invert w1 hlen hok (v := (v : Int)) (by omega)
    rw [evp] at this
    rw [← this, show ((255 - v : Nat) : Int) = 255 - (v : Int) by omega]
  rw [q5] at c5
  rw [q6] at c6
  simp -dsimp -implicitDefEqProofs (maxSteps := 1000000) only [go_sem, ↓reduceIte, Nat.reduceAdd, Nat.reduceSub, Nat.reduceMul, Nat.reduceLT, Nat.reduceLeDiff, Nat.reduceEqDiff, Nat.reduceBEq, Nat.reduceBNe, Int.reduceToNat, Int.reduceLT, Int.reduceLE, Int.reduceNeg, reduceCtorEq, Int.reduceEq, Int.reduceNe, ze37, cnt0, cnL, cnT, cnO]
  refine AtFn.pure0 c1 ?_
  simp -dsimp -implicitDefEqProofs (maxSteps := 1000000) only [go_sem, ↓reduceIte, Nat.reduceAdd, Nat.reduceSub, Nat.reduceMul, Nat.reduceLT, Nat.reduceLeDiff, Nat.reduceEqDiff, Nat.reduceBEq, Nat.reduceBNe, Int.reduceToNat, Int.reduceLT, Int.reduceLE, Int.reduceNeg, reduceCtorEq, Int.reduceEq, Int.reduceNe, ze37, cnt0, cnL, cnT, cnO]
  refine AtFn.pure0 c2 ?_
  simp -dsimp -implicitDefEqProofs (maxSteps := 1000000) only [go_sem, ↓reduceIte, Nat.reduceAdd, Nat.reduceSub, Nat.reduceMul, Nat.reduceLT, Nat.reduceLeDiff, Nat.reduceEqDiff, Nat.reduceBEq, Nat.reduceBNe, Int.reduceToNat, Int.reduceLT, Int.reduceLE, Int.reduceNeg, reduceCtorEq, Int.reduceEq, Int.reduceNe, ze37, cnt0, cnL, cnT, cnO]
  refine AtFn.pure0 c3 ?_
  simp -dsimp -implicitDefEqProofs (maxSteps := 1000000) only [go_sem, ↓reduceIte, Nat.reduceAdd, Nat.reduceSub, Nat.reduceMul, Nat.reduceLT, Nat.reduceLeDiff, Nat.reduceEqDiff, Nat.reduceBEq, Nat.reduceBNe, Int.reduceToNat, Int.reduceLT, Int.reduceLE, Int.reduceNeg, reduceCtorEq, Int.reduceEq, Int.reduceNe, ze37, cnt0, cnL, cnT, cnO]
  refine AtFn.pure0 c4 ?_
  simp -dsimp -implicitDefEqProofs (maxSteps := 1000000) only [go_sem, ↓reduceIte, Nat.reduceAdd, Nat.reduceSub, Nat.reduceMul, Nat.reduceLT, Nat.reduceLeDiff, Nat.reduceEqDiff, Nat.reduceBEq, Nat.reduceBNe, Int.reduceToNat, Int.reduceLT, Int.reduceLE, Int.reduceNeg, reduceCtorEq, Int.reduceEq, Int.reduceNe, ze37, cnt0, cnL, cnT, cnO]
  refine AtFn.pure0 c5 ?_
  simp -dsimp -implicitDefEqProofs (maxSteps := 1000000) only [go_sem, ↓reduceIte, Nat.reduceAdd, Nat.reduceSub, Nat.reduceMul, Nat.reduceLT, Nat.reduceLeDiff, Nat.reduceEqDiff, Nat.reduceBEq, Nat.reduceBNe, Int.reduceToNat, Int.reduceLT, Int.reduceLE, Int.reduceNeg, reduceCtorEq, Int.reduceEq, Int.reduceNe, ze37, cnt0, cnL, cnT, cnO]
  refine AtFn.pure0 c6 ?_
  simp -dsimp -implicitDefEqProofs (maxSteps := 1000000) only [go_sem, ↓reduceIte, Nat.reduceAdd, Nat.reduceSub, Nat.reduceMul, Nat.reduceLT, Nat.reduceLeDiff, Nat.reduceEqDiff, Nat.reduceBEq, Nat.reduceBNe, Int.reduceToNat, Int.reduceLT, Int.reduceLE, Int.reduceNeg, reduceCtorEq, Int.reduceEq, Int.reduceNe, ze37, cnt0, cnL, cnT, cnO]
  refine AtFn.pure0 c7 ?_
  simp -dsimp -implicitDefEqProofs (maxSteps := 1000000) only [go_sem, ↓reduceIte, Nat.reduceAdd, Nat.reduceSub, Nat.reduceMul, Nat.reduceLT, Nat.reduceLeDiff, Nat.reduceEqDiff, Nat.reduceBEq, Nat.reduceBNe, Int.reduceToNat, Int.reduceLT, Int.reduceLE, Int.reduceNeg, reduceCtorEq, Int.reduceEq, Int.reduceNe, ze37, cnt0, cnL, cnT, cnO]
  refine ⟨{k : Nat // k ≤ 256}, fun k => ⟨192, tl [(1, .ptr 0 0 0), (3, .ptr 1 0 0), (4, I 0), (11, .ptr 2 0 0), (12, I 0), (13, .ptr 3 0 0), (14, I 0), (15, .ptr 4 0 0), (16, I 0), (17, I (ps p k.1)), (72, I k.1)], [(4, ⟨256, [cnC (cntL vp)]⟩), (3, ⟨256, [cnC (cntL p)]⟩), (2, ⟨256, [cnC (cntL p)]⟩), (1, ⟨256, [cnC (cntL p)]⟩), (0, ⟨3, [[I w, I h, .ro 1 (pxC p)]]⟩)], 5, .nil⟩, fun k => 256 - k.1,
    ⟨⟨0, by omega⟩, Le.tl (Ls := []) (y := none) [(1, 2), (2, 6), (3, 7), (4, 8)] (by simp -dsimp -implicitDefEqProofs (maxSteps := 1000000) only [go_sem, ↓reduceIte, Nat.reduceAdd, Nat.reduceSub, Nat.reduceMul, Nat.reduceLT, Nat.reduceLeDiff, Nat.reduceEqDiff, Nat.reduceBEq, Nat.reduceBNe, Int.reduceToNat, Int.reduceLT, Int.reduceLE, Int.reduceNeg, reduceCtorEq, Int.reduceEq, Int.reduceNe]; rfl) ?_ (by simp) (by simp [sg]) trivial⟩, fun k => ?_⟩
  · simp -dsimp -implicitDefEqProofs (maxSteps := 1000000) only [go_sem, ↓reduceIte, Nat.reduceAdd, Nat.reduceSub, Nat.reduceMul, Nat.reduceLT, Nat.reduceLeDiff, Nat.reduceEqDiff, Nat.reduceBEq, Nat.reduceBNe, Int.reduceToNat, Int.reduceLT, Int.reduceLE, Int.reduceNeg, reduceCtorEq, Int.reduceEq, Int.reduceNe]
    exact ⟨renL_cl2 rfl (clCn1 _), renL_cl2 rfl (clCn1 _), renL_cl2 rfl (clCn1 _), renL_cl2 rfl (clCn1 _), renL_F (by simp -dsimp -implicitDefEqProofs (maxSteps := 1000000) only [go_sem, ↓reduceIte, Nat.reduceAdd, Nat.reduceSub, Nat.reduceMul, Nat.reduceLT, Nat.reduceLeDiff, Nat.reduceEqDiff, Nat.reduceBEq, Nat.reduceBNe, Int.reduceToNat, Int.reduceLT, Int.reduceLE, Int.reduceNeg, reduceCtorEq, Int.reduceEq, Int.reduceNe])⟩
  obtain ⟨k, hk⟩ := k
  simp -dsimp -implicitDefEqProofs (maxSteps := 1000000) only [go_sem, ↓reduceIte, Nat.reduceAdd, Nat.reduceSub, Nat.reduceMul, Nat.reduceLT, Nat.reduceLeDiff, Nat.reduceEqDiff, Nat.reduceBEq, Nat.reduceBNe, Int.reduceToNat, Int.reduceLT, Int.reduceLE, Int.reduceNeg, reduceCtorEq, Int.reduceEq, Int.reduceNe]
  refine ⟨fun hk' => ?_, fun hout => ?_⟩
  · have hkl : k < 256 := by omega
    have ek := wrA1 (a := k) (by omega)
    have gk := cnt_at (l := p) hkl
    have gv := cnt_at (l := vp) (show 255 - k < 256 by omega)
    rw [q7 k hkl] at gv
    have hps := ps_le (p := p) hok (k := k + 1) (by omega)
    rw [ps_s] at hps
    have z1 : wr (((ps p k : Nat) : Int) + ((p.count (k : Int) : Nat) : Int)) = ((ps p (k + 1) : Nat) : Int) := by rw [ps_s, wr_in] <;> omega
    have z2 : wr (255 - (k : Int)) = ((255 - k : Nat) : Int) := by rw [wr_in] <;> omega
    have l2 : ((255 - k : Nat) : Int) < 256 := by omega
    simp -dsimp -implicitDefEqProofs (maxSteps := 1000000) only [go_sem, ↓reduceIte, Nat.reduceAdd, Nat.reduceSub, Nat.reduceMul, Nat.reduceLT, Nat.reduceLeDiff, Nat.reduceEqDiff, Nat.reduceBEq, Nat.reduceBNe, Int.reduceToNat, Int.reduceLT, Int.reduceLE, Int.reduceNeg, reduceCtorEq, Int.reduceEq, Int.reduceNe, hk', gk, Nat.mul_one, Nat.zero_add, cnC_get, Int.natCast_nonneg, Int.toNat_natCast, z1]
    refine AtCode.draw 8 [([], []), ([0], []), ([0, 1], []), ([0, 1, 2], []), ([], []), ([4], []), ([4, 5], []), ([0, 1, 2, 3, 4, 5, 6], [])] (by kernel_rfl) ?_
    simp -dsimp -implicitDefEqProofs (maxSteps := 1000000) only [go_sem, ↓reduceIte, Nat.reduceAdd, Nat.reduceSub, Nat.reduceMul, Nat.reduceLT, Nat.reduceLeDiff, Nat.reduceEqDiff, Nat.reduceBEq, Nat.reduceBNe, Int.reduceToNat, Int.reduceLT, Int.reduceLE, Int.reduceNeg, reduceCtorEq, Int.reduceEq, Int.reduceNe, hk', z2, l2, gk, gv, Nat.mul_one, Nat.zero_add, cnC_get, Int.natCast_nonneg, Int.toNat_natCast]
    refine ⟨⟨k + 1, by omega⟩, by show 256 - (k + 1) < 256 - k; omega, Le.tl (Ls := []) (y := none) [] (by simp -dsimp -implicitDefEqProofs (maxSteps := 1000000) only [go_sem, ↓reduceIte, Nat.reduceAdd, Nat.reduceSub, Nat.reduceMul, Nat.reduceLT, Nat.reduceLeDiff, Nat.reduceEqDiff, Nat.reduceBEq, Nat.reduceBNe, Int.reduceToNat, Int.reduceLT, Int.reduceLE, Int.reduceNeg, reduceCtorEq, Int.reduceEq, Int.reduceNe, ek]) ?_ (by simp) (by simp [sg]) trivial⟩
    simp -dsimp -implicitDefEqProofs (maxSteps := 1000000) only [go_sem, ↓reduceIte, Nat.reduceAdd, Nat.reduceSub, Nat.reduceMul, Nat.reduceLT, Nat.reduceLeDiff, Nat.reduceEqDiff, Nat.reduceBEq, Nat.reduceBNe, Int.reduceToNat, Int.reduceLT, Int.reduceLE, Int.reduceNeg, reduceCtorEq, Int.reduceEq, Int.reduceNe]
    exact ⟨renL_cl2 rfl (clCn1 _), renL_cl2 rfl (clCn1 _), renL_cl2 rfl (clCn1 _), renL_cl2 rfl (clCn1 _), renL_F (by simp -dsimp -implicitDefEqProofs (maxSteps := 1000000) only [go_sem, ↓reduceIte, Nat.reduceAdd, Nat.reduceSub, Nat.reduceMul, Nat.reduceLT, Nat.reduceLeDiff, Nat.reduceEqDiff, Nat.reduceBEq, Nat.reduceBNe, Int.reduceToNat, Int.reduceLT, Int.reduceLE, Int.reduceNeg, reduceCtorEq, Int.reduceEq, Int.reduceNe])⟩
  · obtain rfl : k = 256 := by omega
    have hps : ps p 256 = p.length := count_sum hok
    have z3 := wrM (a := w) (b := h) (by omega)
    rw [hps, hlen]
    simp -dsimp -implicitDefEqProofs (maxSteps := 1000000) only [go_sem, ↓reduceIte, Nat.reduceAdd, Nat.reduceSub, Nat.reduceMul, Nat.reduceLT, Nat.reduceLeDiff, Nat.reduceEqDiff, Nat.reduceBEq, Nat.reduceBNe, Int.reduceToNat, Int.reduceLT, Int.reduceLE, Int.reduceNeg, reduceCtorEq, Int.reduceEq, Int.reduceNe, cnL, cnT, cnO, intsA_cn, cntL_len, iff_true_intro eqk37, z3]
    rcases box_shape w1 w2 h1 h2 hlen with ⟨hb, h0⟩ | ⟨x, y, a, b, hb, B⟩
    · have c8 := box19 ⟨w, h, p⟩ hok
      rw [hb] at c8
      have hc0 : p.count (0 : Int) = w * h := by
        rw [← hlen, List.count_eq_length]
        intro q hq
        obtain ⟨k, hk⟩ := List.getElem?_of_mem hq
        have hkl : k < p.length := (List.getElem?_eq_some_iff.1 hk).1
        have := h0 k hkl
        rw [List.getD, hk] at this
        exact this.symm
      have g0 := cnt_at (l := p) (show 0 < 256 by omega)
      rw [show ((0 : Nat) : Int) = 0 from rfl, hc0] at g0
      refine AtFn.pure0 c8 ?_
      simp -dsimp -implicitDefEqProofs (maxSteps := 1000000) only [go_sem, ↓reduceIte, Nat.reduceAdd, Nat.reduceSub, Nat.reduceMul, Nat.reduceLT, Nat.reduceLeDiff, Nat.reduceEqDiff, Nat.reduceBEq, Nat.reduceBNe, Int.reduceToNat, Int.reduceLT, Int.reduceLE, Int.reduceNeg, reduceCtorEq, Int.reduceEq, Int.reduceNe, g0, cnC_get]
      refine AtFn.pure0 awake13 ?_
      simp -dsimp -implicitDefEqProofs (maxSteps := 1000000) only [go_sem, ↓reduceIte, Nat.reduceAdd, Nat.reduceSub, Nat.reduceMul, Nat.reduceLT, Nat.reduceLeDiff, Nat.reduceEqDiff, Nat.reduceBEq, Nat.reduceBNe, Int.reduceToNat, Int.reduceLT, Int.reduceLE, Int.reduceNeg, reduceCtorEq, Int.reduceEq, Int.reduceNe]
    · have c8 := box19 ⟨w, h, p⟩ hok
      rw [hb] at c8
      have a1 := B.a1
      have b1 := B.b1
      have xa := B.xa
      have yb := B.yb
      obtain ⟨sp, hsp, hsl⟩ := mkR_eta a b (fun i j => px p w (x + i) (y + j))
      have c9 := crop45 ⟨w, h, p⟩ x y a b
      have k9 := ok_crop (r := ⟨w, h, p⟩) hok x y a b
      have o9 : cropP ⟨w, h, p⟩ x y a b = (⟨a, b, sp⟩, 0) := by
        unfold cropP
        rw [if_pos hc, if_pos (by simp only [cropC, Bool.and_eq_true, decide_eq_true_eq]; omega)]
        exact congrArg (fun q => (q, (0 : Int))) hsp
      rw [o9] at c9 k9
      have c10 := counts21 ⟨a, b, sp⟩ k9
      rw [cp (vaB_mk a1 (by omega) b1 (by omega) hsl)] at c10
      have c11 := box19 ⟨a, b, sp⟩ k9
      have hbc := box_crop w2 h2 B
      rw [hsp] at hbc
      rw [hbc] at c11
      have hset : (cntL sp).set 0 0 = (cntL p).set 0 0 := by
        refine List.ext_getElem? fun v => ?_
        by_cases hv : v < 256
        · by_cases h0 : v = 0
          · subst h0
            rw [List.getElem?_set_self (by rw [cntL_len]; omega), List.getElem?_set_self (by rw [cntL_len]; omega)]
          · rw [List.getElem?_set_ne (by omega), List.getElem?_set_ne (by omega), cnt_at hv, cnt_at hv]
            have := count_crop (c := (v : Int)) (b := b) w1 a1 hlen xa yb (fun i j hi hj he => B.all i j hi hj (by rw [he]; omega))
            rw [hsp] at this
            show some ((sp.count (v : Int) : Nat) : Int) = _
            rw [show sp.count (v : Int) = p.count (v : Int) from this]
        · rw [List.getElem?_eq_none (by rw [List.length_set, cntL_len]; omega), List.getElem?_eq_none (by rw [List.length_set, cntL_len]; omega)]
      refine AtFn.pure0 c8 ?_
      simp -dsimp -implicitDefEqProofs (maxSteps := 1000000) only [go_sem, ↓reduceIte, Nat.reduceAdd, Nat.reduceSub, Nat.reduceMul, Nat.reduceLT, Nat.reduceLeDiff, Nat.reduceEqDiff, Nat.reduceBEq, Nat.reduceBNe, Int.reduceToNat, Int.reduceLT, Int.reduceLE, Int.reduceNeg, reduceCtorEq, Int.reduceEq, Int.reduceNe]
      refine AtFn.pure0 c9 ?_
      simp -dsimp -implicitDefEqProofs (maxSteps := 1000000) only [go_sem, ↓reduceIte, Nat.reduceAdd, Nat.reduceSub, Nat.reduceMul, Nat.reduceLT, Nat.reduceLeDiff, Nat.reduceEqDiff, Nat.reduceBEq, Nat.reduceBNe, Int.reduceToNat, Int.reduceLT, Int.reduceLE, Int.reduceNeg, reduceCtorEq, Int.reduceEq, Int.reduceNe, ze37, cnt0, cnL, cnT, cnO]
      refine AtFn.pure0 c10 ?_
      simp -dsimp -implicitDefEqProofs (maxSteps := 1000000) only [go_sem, ↓reduceIte, Nat.reduceAdd, Nat.reduceSub, Nat.reduceMul, Nat.reduceLT, Nat.reduceLeDiff, Nat.reduceEqDiff, Nat.reduceBEq, Nat.reduceBNe, Int.reduceToNat, Int.reduceLT, Int.reduceLE, Int.reduceNeg, reduceCtorEq, Int.reduceEq, Int.reduceNe, ze37, cnt0, cnL, cnT, cnO]
      refine AtFn.pure0 c11 ?_
      simp -dsimp -implicitDefEqProofs (maxSteps := 1000000) only [go_sem, ↓reduceIte, Nat.reduceAdd, Nat.reduceSub, Nat.reduceMul, Nat.reduceLT, Nat.reduceLeDiff, Nat.reduceEqDiff, Nat.reduceBEq, Nat.reduceBNe, Int.reduceToNat, Int.reduceLT, Int.reduceLE, Int.reduceNeg, reduceCtorEq, Int.reduceEq, Int.reduceNe]
      rw [cnS sp, cnS p, hset, cnL, cnL, cnST, cnSL]
      simp -dsimp -implicitDefEqProofs (maxSteps := 1000000) only [go_sem, ↓reduceIte, Nat.reduceAdd, Nat.reduceSub, Nat.reduceMul, Nat.reduceLT, Nat.reduceLeDiff, Nat.reduceEqDiff, Nat.reduceBEq, Nat.reduceBNe, Int.reduceToNat, Int.reduceLT, Int.reduceLE, Int.reduceNeg, reduceCtorEq, Int.reduceEq, Int.reduceNe, intsA_cn, cnSN, iff_true_intro eqk37]
      refine AtFn.pure0 awake13 ?_
      simp -dsimp -implicitDefEqProofs (maxSteps := 1000000) only [go_sem, ↓reduceIte, Nat.reduceAdd, Nat.reduceSub, Nat.reduceMul, Nat.reduceLT, Nat.reduceLeDiff, Nat.reduceEqDiff, Nat.reduceBEq, Nat.reduceBNe, Int.reduceToNat, Int.reduceLT, Int.reduceLE, Int.reduceNeg, reduceCtorEq, Int.reduceEq, Int.reduceNe]
end

end Go.Proofs.YtfmlhmfbhcfnpaaDoor
