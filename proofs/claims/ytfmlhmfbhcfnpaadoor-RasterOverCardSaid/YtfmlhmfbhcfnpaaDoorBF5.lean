/- What functions of the given program answer, part 5. Conditions: each theorem speaks for itself. -/
import Derived.Test.YtfmlhmfbhcfnpaaDoorBTy
import Derived.Test.YtfmlhmfbhcfnpaaDoorBF1
import Derived.Test.YtfmlhmfbhcfnpaaDoorBF2
import Derived.Test.YtfmlhmfbhcfnpaaDoorBF3
import Derived.Test.YtfmlhmfbhcfnpaaDoorBF4
set_option linter.unusedSimpArgs false
set_option linter.unusedVariables false
namespace Go.Proofs.YtfmlhmfbhcfnpaaDoor
open Go Go.Eng Go.RowKit
attribute [local go_sem ↓] qE_move qE_assign qE_pick qE_load qE_fieldAddr qE_indexAddr qE_extract qE_binOp qE_not qE_convert qE_makeFunc qE_build qE_len qE_max2 qE_min2 qE_usd qE_nilCheck qE_slice vc_end vc_skip vc_scope vc_ret vc_seq vc_cond vc_block vc_exit vc_region vc_draw vc_rangeFunc vc_loop vc_blk vc_lp vc_o_nil vc_o vc_o_guard onK_eq oK_move oK_assign oK_pick oK_load oK_fieldAddr oK_indexAddr oK_index oK_extract oK_binOp oK_unOp oK_convert oK_makeFunc oK_nilCheck oK_slice oK_build oK_len oK_max oK_ustr oK_min onN_eq oK_box oK_alloc oK_buildSlice oK_makeSlice onH_eq oK_store onA_eq oK_append oK_call oK_range oK_next bV_add bV_sub bV_mul bV_quo bV_rem bV_and bV_or bV_shl bV_shr bV_eql bV_neq bV_lss bV_leq bV_gtr bV_geq bV_add_s bV_eql_s bV_neq_s vcQ_nil vcQ_cons vcQ_guard Q_move Q_assign Q_pick Q_load Q_fieldAddr Q_indexAddr Q_index Q_binOp Q_nilCheck Q_slice Q_build Q_len Q_usd Q_min Q_call qE_index tailB_nil tailB_true onS_eq tailB_store onQ_eq loadE indexE
attribute [local go_sem] force_eq optK_some optE_some optE_none vK_v bK_v tK_t fnK_fn fyK_fn fyK_y nK_ptr pK_ptr pK_rp brK_true brK_false brK_not evA_tmp evA_const evA_func putA_some putA_none pushA_eq slots_zero tl_nil tl_cons find_cons find_nil setN_cons setN_nil dropN_nil dropN_cons loE_none loE_some hiE_none hiE_some slE_sl slE_ro slE_str bE_pp bE_p0 bE_00 bE_i bE_s bE_eql intsA_nil intsA_cons slK_sl ptrV_eql ptrV_neq gdK_b popTo_blk popTo_c popTo_lp nilE_tmp nilE_int nilE_str nilE_ptr nilE_nil srcE_ro srcE_sl srcE_str dstE_sl dstE_nil apK_E fin_eq res_nil res_tmp res_cell tup1 tup0 optA_some frz_v frz_ro frz_rp frz_g frz_fn frz_ptr frz_sl optL_some nm_v nm_ro nm_rp nm_g nm_fn nm_ptr nm_sl cells_v cells_g cells_ro cells_ptr cells_sl one_int one_string one_slice oneA_v oneA_ro oneA_ptr oneA_sl ofV_int ofV_bool ofV_string ofV_slice ofV_nilFunc ofV_pointer len_ro len_sl asI_int fill_nil fill_cons chunks_nil chunks_cons DrawK_eq idR_eq sg_nil sg_cons ren_v ren_nil ren_ptr ren_sl ren_ro ren_rp iK_ro iK_sl ixE_s RfEnd_eq RfQ_eq RfBody_eq takeA_00 takeA_s updL_cons updL_nil nil_eq maskE_eq i_InlQ i_tup2 i_RenF_nil i_RenF_cons i_cut_nil i_cut_cons wrap_wr brK_dec maskH_eq upd_get slots_succ Cl_v Cl_ro Cl_rp Cl_fn Cl_g Cl_t g_put0 g_put1 u_nil u_tmp u_cell u_fin Bool.false_eq_true decide_true decide_false beq_self_eq_true true_and and_true ne_eq not_true not_false_eq_true List.elem_cons List.elem_nil List.contains_cons List.contains_nil List.getD_cons_zero List.getD_cons_succ Int.cast_ofNat_Int Bool.or_true Bool.true_or Bool.or_false Bool.false_or if_true if_false List.toList_toArray List.map_cons List.map_nil List.cons_append List.nil_append List.append_nil List.flatMap_cons List.flatMap_nil List.getElem?_cons_zero List.getElem?_cons_succ List.length_cons List.length_nil List.drop_succ_cons List.drop_zero List.take_succ_cons List.take_zero List.all_cons List.all_nil List.set_cons_zero List.set_cons_succ Option.bind_some Option.bind_none Option.map_some Option.map_none List.headD_cons List.tail_cons List.getElem?_toArray beq_true beq_false Bool.not_true Bool.not_false Bool.true_and Bool.and_true Bool.false_and Bool.and_false newCh Option.some.injEq exists_eq_left' sg_nil sg_cons List.mem_cons List.not_mem_nil forall_eq_or_imp forall_eq false_implies implies_true or_false false_or false_and and_false or_true true_or exists_false Option.isSome_some Option.isSome_none List.range_zero
attribute [local go_sem] T.sz3 T.ag3 T.ik3 T.us3 T.sz5 T.by5 T.ag5 T.ik5 T.us5 T.ze5 T.sz9 T.by9 T.ag9 T.sl9 T.ar9 T.pt9 T.ik9 T.st9 T.ze9 T.us21 T.sz23 T.by23 T.ag23 T.sl23 T.ar23 T.pt23 T.ik23 T.us23 T.ux23 T.ze23 T.sz25 T.ag25 T.sf25 T.ze25 T.fl25_0 T.fl25_1 T.fl25_2 T.bu25 T.sz26 T.ag26 T.sf26 T.ze26 T.sz34 T.ag34 T.sf34 T.ze34 T.bu34 T.sl40 T.ik40 T.us40 T.ux40 T.sz50 T.by50 T.ag50 T.sl50 T.ar50 T.sf50 T.ze50 T.bu50 T.sl68 T.ar68 T.pt68 T.sz80 T.ag80 T.ik80 T.sf82 T.ze82 T.fl82_0 T.fl82_1 T.sz83 T.ag83 T.sl83 T.ik83 T.us83 T.ux83 T.sl91 T.ik117 -- NOREP
section
set_option maxRecDepth 20000
attribute [local go_sem] clPxT
abbrev raC (r : Ra) : List AV := [I r.w, I r.h, .ro 1 (pxC r.p)]
theorem clRas (l : List Ra) : ∀ c ∈ l.map raC, ∀ s ∈ c, Cl s := fun c hc s hs => by
  obtain ⟨r, _, rfl⟩ := List.mem_map.1 hc
  simp at hs
  rcases hs with rfl | rfl | rfl
  · exact .v _
  · exact .v _
  · exact .ro (clPx _)
def fewB (l : List Ra) : Bool := l.all fun r => decide (r.p.length ≤ 70000)
theorem few18 (l : List Ra) (hl : l.length ≤ 1000) : PFun Tryd.prog 18 [.ro 3 (l.map raC)] (Bo (fewB l)) := by
  refine PFun.intro 400 mixed Tryd.func18 (by kernel_rfl) rfl (by first | exact .v _ | (simp [Cl_v, Cl_t, Cl_g, Cl_fn, Cl_rp, Cl_ro]; done) | (simp [Cl_v, Cl_t, Cl_g, Cl_fn, Cl_rp, Cl_ro, or_imp, forall_and]; done) | (split <;> simp [Cl_v, Cl_t, Cl_g, Cl_fn, Cl_rp, Cl_ro])) (Nat.le_of_ble_eq_true rfl) ?_; rw [Tryd.ntmps18, Tryd.results18]
  simp -dsimp -implicitDefEqProofs (maxSteps := 1000000) only [go_sem, ↓reduceIte, Nat.reduceAdd, Nat.reduceSub, Nat.reduceMul, Nat.reduceLT, Nat.reduceLeDiff, Nat.reduceEqDiff, Nat.reduceBEq, Nat.reduceBNe, Int.reduceToNat, Int.reduceLT, Int.reduceLE, Int.reduceNeg, reduceCtorEq, Int.reduceEq, Int.reduceNe, List.length_map]
  refine ⟨{k : Nat // k ≤ l.length ∧ fewB (l.take k) = true}, fun k => ⟨16, tl [(5, .ro 3 (l.map raC)), (6, I l.length), (7, I k.1)], [], 0, .nil⟩, fun k => l.length - k.1,
    ⟨⟨0, by omega, by simp [fewB]⟩, Le.tl0 (Ls := []) (y := none) [] ?_ (by simp -dsimp -implicitDefEqProofs (maxSteps := 1000000) only [go_sem, ↓reduceIte, Nat.reduceAdd, Nat.reduceSub, Nat.reduceMul, Nat.reduceLT, Nat.reduceLeDiff, Nat.reduceEqDiff, Nat.reduceBEq, Nat.reduceBNe, Int.reduceToNat, Int.reduceLT, Int.reduceLE, Int.reduceNeg, reduceCtorEq, Int.reduceEq, Int.reduceNe]) (by simp) (by simp [sg]) trivial⟩, fun k => ?_⟩
  · simp -dsimp -implicitDefEqProofs (maxSteps := 1000000) only [go_sem, ↓reduceIte, Nat.reduceAdd, Nat.reduceSub, Nat.reduceMul, Nat.reduceLT, Nat.reduceLeDiff, Nat.reduceEqDiff, Nat.reduceBEq, Nat.reduceBNe, Int.reduceToNat, Int.reduceLT, Int.reduceLE, Int.reduceNeg, reduceCtorEq, Int.reduceEq, Int.reduceNe]
    exact clRas _
  obtain ⟨k, hk, hf⟩ := k
  simp -dsimp -implicitDefEqProofs (maxSteps := 1000000) only [go_sem, ↓reduceIte, Nat.reduceAdd, Nat.reduceSub, Nat.reduceMul, Nat.reduceLT, Nat.reduceLeDiff, Nat.reduceEqDiff, Nat.reduceBEq, Nat.reduceBNe, Int.reduceToNat, Int.reduceLT, Int.reduceLE, Int.reduceNeg, reduceCtorEq, Int.reduceEq, Int.reduceNe]
  refine ⟨fun hk' => ?_, fun hout => ?_⟩
  · obtain ⟨r, hr⟩ : ∃ x, l[k]? = some x := ⟨_, List.getElem?_eq_getElem (by omega)⟩
    have ek := wrA1 (a := k) (by omega)
    have ht : fewB (l.take (k + 1)) = decide (r.p.length ≤ 70000) := by
      unfold fewB at hf ⊢
      rw [List.take_add_one, hr, List.all_append, hf]; simp
    simp -dsimp -implicitDefEqProofs (maxSteps := 1000000) only [go_sem, ↓reduceIte, Nat.reduceAdd, Nat.reduceSub, Nat.reduceMul, Nat.reduceLT, Nat.reduceLeDiff, Nat.reduceEqDiff, Nat.reduceBEq, Nat.reduceBNe, Int.reduceToNat, Int.reduceLT, Int.reduceLE, Int.reduceNeg, reduceCtorEq, Int.reduceEq, Int.reduceNe, List.getElem?_map, hr, Int.natCast_nonneg, Int.toNat_natCast, pxC_len]
    refine ⟨fun hb => ?_, fun hb => ?_⟩
    · have : fewB l = false := by
        unfold fewB
        rw [List.all_eq_false]
        exact ⟨r, List.mem_of_getElem? hr, by simp; omega⟩
      rw [this]
    · refine ⟨⟨k + 1, by omega, by rw [ht]; simp; omega⟩, by show l.length - (k + 1) < l.length - k; omega, Le.tl (Ls := []) (y := none) [] ?_ (by simp -dsimp -implicitDefEqProofs (maxSteps := 1000000) only [go_sem, ↓reduceIte, Nat.reduceAdd, Nat.reduceSub, Nat.reduceMul, Nat.reduceLT, Nat.reduceLeDiff, Nat.reduceEqDiff, Nat.reduceBEq, Nat.reduceBNe, Int.reduceToNat, Int.reduceLT, Int.reduceLE, Int.reduceNeg, reduceCtorEq, Int.reduceEq, Int.reduceNe]) (by simp) (by simp [sg]) trivial⟩
      simp -dsimp -implicitDefEqProofs (maxSteps := 1000000) only [go_sem, ↓reduceIte, Nat.reduceAdd, Nat.reduceSub, Nat.reduceMul, Nat.reduceLT, Nat.reduceLeDiff, Nat.reduceEqDiff, Nat.reduceBEq, Nat.reduceBNe, Int.reduceToNat, Int.reduceLT, Int.reduceLE, Int.reduceNeg, reduceCtorEq, Int.reduceEq, Int.reduceNe, ek]
      exact clRas _
  · obtain rfl : k = l.length := by omega
    rw [List.take_length] at hf
    rw [hf]
end

section
set_option maxRecDepth 20000
attribute [local go_sem] clPxT
theorem okZ : okP raZ.p := fun x hx => by simp at hx
theorem okP_mk {w h : Nat} {f : Nat → Nat → Int} (hf : ∀ i j, i < w → j < h → 0 ≤ f i j ∧ f i j ≤ 255) : okP (mkR w h f).p := fun x hx => by
  obtain ⟨k, hk, rfl⟩ := List.mem_map.1 hx
  have := mod_lt2 (List.mem_range.1 hk)
  exact hf _ _ this.1 this.2
theorem px_ok {p : List Int} (h : okP p) (w i j : Nat) : 0 ≤ px p w i j ∧ px p w i j ≤ 255 := by
  unfold px List.getD
  cases hx : p[j * w + i]? with
  | none => simp
  | some x => exact h x (List.mem_of_getElem? hx)
theorem sameT {a : Ra} (h : okP a.p) : PFun Tryd.prog 16 [RaA a, RaA a] (Bo true) := by
  have := same16 a a h h
  rwa [show sameB a a = true by simp [sameB]] at this
theorem few2 (a b : Ra) : PFun Tryd.prog 18 [.ro 3 [raC a, raC b]] (Bo (decide (a.p.length ≤ 70000) && decide (b.p.length ≤ 70000))) := by
  have := few18 [a, b] (by simp)
  simpa [fewB] using this
end

section
set_option maxRecDepth 20000
attribute [local go_sem] clPxT
theorem px_mk {w h : Nat} {f : Nat → Nat → Int} {i j : Nat} (hi : i < w) (hj : j < h) : px (mkR w h f).p w i j = f i j := by
  have hl := idx_lt hi hj
  unfold px mkR List.getD
  rw [List.getElem?_map, List.getElem?_range hl]
  obtain ⟨x1, x2⟩ := at_idx (j := j) hi
  show f _ _ = _
  rw [x1, x2]
end

section
theorem u8_wf {n : Int} (h : (Lit.int .u8 n).wf = true) : 0 ≤ n ∧ n ≤ 255 := by
  simp [Lit.wf, IntKind.min, IntKind.max] at h
  first | exact h | (simp [IntKind.signed, IntKind.bits] at h; omega)
end

section
set_option maxRecDepth 20000
attribute [local go_sem] clPxT
def ovF (b : Ra) (p : List Int) (aw : Nat) (x y : Int) (k : Nat) : Int :=
  if hasB b (((k % aw : Nat) : Int) - x) (((k / aw : Nat) : Int) - y) = true ∧ ¬ px b.p b.w.toNat (((k % aw : Nat) : Int) - x).toNat (((k / aw : Nat) : Int) - y).toNat = 0 then px b.p b.w.toNat (((k % aw : Nat) : Int) - x).toNat (((k / aw : Nat) : Int) - y).toNat else p.getD k 0
def ovO (b : Ra) (aw : Nat) (x y : Int) (k : Nat) : Nat :=
  if hasB b (((k % aw : Nat) : Int) - x) (((k / aw : Nat) : Int) - y) = true then (((k / aw : Nat) : Int) - y).toNat * b.w.toNat + (((k % aw : Nat) : Int) - x).toNat else b.w.toNat * b.h.toNat
def overP (a b : Ra) (x y : Int) : Ra × Int := if vaB a && vaB b then (⟨a.w, a.h, (List.range a.p.length).map (ovF b a.p a.w.toNat x y)⟩, 0) else (raZ, 2)
theorem ovO_iff {bw bh aw : Nat} {q : List Int} {x y : Int} {k i j : Nat} (hi : i < bw) (hj : j < bh) : ovO ⟨bw, bh, q⟩ aw x y k = j * bw + i ↔ ((k % aw : Nat) : Int) = x + i ∧ ((k / aw : Nat) : Int) = y + j := by
  unfold ovO
  by_cases hb : hasB ⟨bw, bh, q⟩ (((k % aw : Nat) : Int) - x) (((k / aw : Nat) : Int) - y) = true
  · rw [if_pos hb]
    obtain ⟨a, b, e1, e2, ha, hb2⟩ := has_of hb
    rw [e1, e2]
    show b * bw + a = j * bw + i ↔ _
    rw [lex_eq ha hi]
    omega
  · rw [if_neg hb]
    have hlt := idx_lt (i := i) (j := j) (w := bw) (h := bh) hi hj
    refine ⟨fun h => ?_, fun h => absurd ?_ hb⟩
    · exfalso
      have : bw * bh = j * bw + i := h
      omega
    · simp only [hasB, Bool.and_eq_true, decide_eq_true_eq]; omega
theorem ovF_at {bw bh aw : Nat} {q p : List Int} {x y : Int} {k i j : Nat} (hi : i < bw) (hj : j < bh) (h : ((k % aw : Nat) : Int) = x + i ∧ ((k / aw : Nat) : Int) = y + j) :
    ovF ⟨bw, bh, q⟩ p aw x y k = if ¬ q.getD (j * bw + i) 0 = 0 then q.getD (j * bw + i) 0 else p.getD k 0 := by
  unfold ovF
  rw [h.1, h.2, show x + (i : Int) - x = i by omega, show y + (j : Int) - y = j by omega]
  have : hasB ⟨bw, bh, q⟩ (i : Int) (j : Int) = true := by simp only [hasB, Bool.and_eq_true, decide_eq_true_eq]; omega
  simp only [this, true_and]
  rfl
theorem ovF_out {b : Ra} {p : List Int} {aw : Nat} {x y : Int} {k : Nat} (h : hasB b (((k % aw : Nat) : Int) - x) (((k / aw : Nat) : Int) - y) = false) : ovF b p aw x y k = p.getD k 0 := by
  unfold ovF; rw [h]; simp
theorem ovO_le {b : Ra} {aw : Nat} {x y : Int} {k : Nat} {n : Nat} (hn : b.w.toNat * b.h.toNat ≤ n) (p : List Int) : ovO b aw x y k < n ∨ ovF b p aw x y k = p.getD k 0 := by
  by_cases hb : hasB b (((k % aw : Nat) : Int) - x) (((k / aw : Nat) : Int) - y) = true
  · left
    obtain ⟨bw, bh, q⟩ := b
    unfold ovO
    rw [if_pos hb]
    have hb0 := hb
    simp only [hasB, Bool.and_eq_true, decide_eq_true_eq] at hb0
    obtain ⟨bw, rfl⟩ := Int.eq_ofNat_of_zero_le (show 0 ≤ bw by omega)
    obtain ⟨bh, rfl⟩ := Int.eq_ofNat_of_zero_le (show 0 ≤ bh by omega)
    obtain ⟨a, b, e1, e2, ha, hb2⟩ := has_of hb
    rw [e1, e2]
    have := idx_lt (i := a) (j := b) (w := bw) (h := bh) ha hb2
    exact Nat.lt_of_lt_of_le this hn
  · right
    exact ovF_out (by simpa using hb)
theorem ov_near {bw bh aw ah : Nat} (hb1 : bw ≤ 256) (hb2 : bh ≤ 256) (ha1 : aw ≤ 256) (ha2 : ah ≤ 256) {q p : List Int} {x y : Int} {k : Nat} (hk : k < aw * ah) :
    ovF ⟨bw, bh, q⟩ p aw (nearV x) (nearV y) k = ovF ⟨bw, bh, q⟩ p aw x y k := by
  have m := mod_lt2 hk
  by_cases h1 : nearV x = x ∧ nearV y = y
  · rw [h1.1, h1.2]
  · rw [ovF_out, ovF_out]
    · unfold nearV at h1
      simp only [hasB, Bool.and_eq_false_iff, decide_eq_false_iff_not]
      generalize k % aw = i at *
      generalize k / aw = j at *
      omega
    · unfold nearV at h1 ⊢
      simp only [hasB, Bool.and_eq_false_iff, decide_eq_false_iff_not]
      generalize k % aw = i at *
      generalize k / aw = j at *
      omega
theorem ov_skip0 {bw bh aw : Nat} {q p : List Int} {x y : Int} {i j : Nat} (hi : i < bw) (hj : j < bh) (h0 : q.getD (j * bw + i) 0 = 0) {k : Nat} (ho : ovO ⟨bw, bh, q⟩ aw x y k = j * bw + i) : ovF ⟨bw, bh, q⟩ p aw x y k = p.getD k 0 := by
  rw [ovF_at hi hj ((ovO_iff hi hj).1 ho), h0]; simp
theorem ov_skipH {bw bh w h : Nat} {q p : List Int} {x y : Int} {i j : Nat} (hi : i < bw) (hj : j < bh) (hb : hasB ⟨w, h, p⟩ (x + i) (y + j) = false) {k : Nat} (hk : k < w * h) (ho : ovO ⟨bw, bh, q⟩ w x y k = j * bw + i) : ovF ⟨bw, bh, q⟩ p w x y k = p.getD k 0 := by
  exfalso
  have h1 := (ovO_iff hi hj).1 ho
  have m := mod_lt2 hk
  simp only [hasB, Bool.and_eq_false_iff, decide_eq_false_iff_not] at hb
  generalize k % w = a at *
  generalize k / w = b at *
  omega
theorem ov_set_iff {bw bh w : Nat} {q : List Int} {x y : Int} {i j i' j' : Nat} (hi : i < bw) (hj : j < bh) (e1 : x + (i : Int) = i') (e2 : y + (j : Int) = j') (h1 : i' < w) (k : Nat) : ovO ⟨bw, bh, q⟩ w x y k = j * bw + i ↔ k = j' * w + i' := by
  rw [ovO_iff hi hj, e1, e2, divmod_eq h1]
  constructor
  · rintro ⟨a, b⟩; exact ⟨Int.ofNat.inj b, Int.ofNat.inj a⟩
  · rintro ⟨a, b⟩; rw [a, b]; exact ⟨rfl, rfl⟩
theorem ov_val {bw bh w : Nat} {q p : List Int} {x y : Int} {i j i' j' : Nat} (hi : i < bw) (hj : j < bh) (e1 : x + (i : Int) = i') (e2 : y + (j : Int) = j') (h1 : i' < w) (h0 : ¬ q.getD (j * bw + i) 0 = 0) : q.getD (j * bw + i) 0 = ovF ⟨bw, bh, q⟩ p w x y (j' * w + i') := by
  obtain ⟨x1, x2⟩ := at_idx (j := j') h1
  rw [ovF_at hi hj (by rw [x1, x2, e1, e2]; exact ⟨rfl, rfl⟩), if_pos h0]
theorem ok_over {a b : Ra} (ha : okP a.p) (hb : okP b.p) (x y : Int) : okP (overP a b x y).1.p := by
  unfold overP; split
  · intro z hz
    obtain ⟨k, _, rfl⟩ := List.mem_map.1 hz
    unfold ovF
    split
    · exact px_ok hb _ _ _
    · have := px_ok ha 0 k 0
      unfold px at this
      simpa using this
  · exact okZ
theorem over29 (a b : Ra) (x y : Int) (hok : okP b.p) : PFun Tryd.prog 29 [RaA a, RaA b, I x, I y] (RE (overP a b x y)) := by
  have hv := valid62 a
  have hv2 := valid62 b
  unfold overP
  by_cases hc : (vaB a && vaB b) = true
  · refine pT hc ?_
    simp only [Bool.and_eq_true] at hc
    obtain ⟨hc, hd⟩ := hc
    obtain ⟨w, h, p, rfl, w1, w2, h1, h2, hlen⟩ := vaR_of hc
    obtain ⟨u, v, q, rfl, u1, u2, v1, v2, hqen⟩ := vaR_of hd
    have hp1 := prodN w2 h2
    have hp2 := prodN u2 v2
    have hm := clone72 (w : Int) (h : Int) p (by omega)
    have bx := near_bd x
    have by' := near_bd y
    have hfin : (List.range p.length).map (ovF ⟨u, v, q⟩ p w x y) = (List.range p.length).map (ovF ⟨u, v, q⟩ p w (nearV x) (nearV y)) :=
      List.map_congr_left fun k hk => (ov_near u2 v2 w2 h2 (by rw [← hlen]; exact List.mem_range.1 hk)).symm
    show PFun Tryd.prog 29 _ (RE (⟨w, h, (List.range p.length).map (ovF ⟨u, v, q⟩ p w x y)⟩, 0))
    rw [hfin]
    have hnx := near68 x
    have hny := near68 y
    obtain ⟨x', hx'⟩ : ∃ x', nearV x = x' := ⟨_, rfl⟩
    obtain ⟨y', hy'⟩ : ∃ y', nearV y = y' := ⟨_, rfl⟩
    rw [hx'] at hnx bx ⊢
    rw [hy'] at hny by' ⊢
    refine PFun.intro 400 mixed Tryd.func29 (by kernel_rfl) rfl (clRE _) (Nat.le_of_ble_eq_true rfl) ?_; rw [Tryd.ntmps29, Tryd.results29]
    simp -dsimp -implicitDefEqProofs (maxSteps := 1000000) only [go_sem, ↓reduceIte, Nat.reduceAdd, Nat.reduceSub, Nat.reduceMul, Nat.reduceLT, Nat.reduceLeDiff, Nat.reduceEqDiff, Nat.reduceBEq, Nat.reduceBNe, Int.reduceToNat, Int.reduceLT, Int.reduceLE, Int.reduceNeg, reduceCtorEq, Int.reduceEq, Int.reduceNe]
    refine AtFn.pure0 hv ?_
    simp -dsimp -implicitDefEqProofs (maxSteps := 1000000) only [go_sem, ↓reduceIte, Nat.reduceAdd, Nat.reduceSub, Nat.reduceMul, Nat.reduceLT, Nat.reduceLeDiff, Nat.reduceEqDiff, Nat.reduceBEq, Nat.reduceBNe, Int.reduceToNat, Int.reduceLT, Int.reduceLE, Int.reduceNeg, reduceCtorEq, Int.reduceEq, Int.reduceNe, hc]
    refine AtFn.pure0 hv2 ?_
    simp -dsimp -implicitDefEqProofs (maxSteps := 1000000) only [go_sem, ↓reduceIte, Nat.reduceAdd, Nat.reduceSub, Nat.reduceMul, Nat.reduceLT, Nat.reduceLeDiff, Nat.reduceEqDiff, Nat.reduceBEq, Nat.reduceBNe, Int.reduceToNat, Int.reduceLT, Int.reduceLE, Int.reduceNeg, reduceCtorEq, Int.reduceEq, Int.reduceNe, hd]
    refine AtFn.pure0 hnx ?_
    simp -dsimp -implicitDefEqProofs (maxSteps := 1000000) only [go_sem, ↓reduceIte, Nat.reduceAdd, Nat.reduceSub, Nat.reduceMul, Nat.reduceLT, Nat.reduceLeDiff, Nat.reduceEqDiff, Nat.reduceBEq, Nat.reduceBNe, Int.reduceToNat, Int.reduceLT, Int.reduceLE, Int.reduceNeg, reduceCtorEq, Int.reduceEq, Int.reduceNe]
    refine AtFn.pure0 hny ?_
    simp -dsimp -implicitDefEqProofs (maxSteps := 1000000) only [go_sem, ↓reduceIte, Nat.reduceAdd, Nat.reduceSub, Nat.reduceMul, Nat.reduceLT, Nat.reduceLeDiff, Nat.reduceEqDiff, Nat.reduceBEq, Nat.reduceBNe, Int.reduceToNat, Int.reduceLT, Int.reduceLE, Int.reduceNeg, reduceCtorEq, Int.reduceEq, Int.reduceNe]
    refine AtFn.newR (.g [I (w : Int), I (h : Int), .sl 3 0 p.length]) hm (renN3 3 _ _ _) ?_
    simp -dsimp -implicitDefEqProofs (maxSteps := 1000000) only [go_sem, ↓reduceIte, Nat.reduceAdd, Nat.reduceSub, Nat.reduceMul, Nat.reduceLT, Nat.reduceLeDiff, Nat.reduceEqDiff, Nat.reduceBEq, Nat.reduceBNe, Int.reduceToNat, Int.reduceLT, Int.reduceLE, Int.reduceNeg, reduceCtorEq, Int.reduceEq, Int.reduceNe, pxC_len]
    refine ⟨{k : Nat // k ≤ q.length}, fun k => ⟨72, tl [(2, I x'), (3, I y'), (4, .ptr 0 0 0), (5, .ptr 1 0 0), (8, .ptr 2 0 0), (9, I 0), (10, .ptr 4 0 0), (33, .ro 1 (pxC q)), (34, I q.length), (35, I k.1)], [(4, ⟨3, [[I w, I h, .sl 3 0 p.length]]⟩), (3, ⟨1, pxC (fillO p.length (ovF ⟨u, v, q⟩ p w x' y') (fun k => p.getD k 0) (ovO ⟨u, v, q⟩ w x' y') k.1)⟩), (2, ⟨3, [[I 0, I 0, .v (.slice none 0 0)]]⟩), (1, ⟨3, [[I u, I v, .ro 1 (pxC q)]]⟩), (0, ⟨3, [[I w, I h, .ro 1 (pxC p)]]⟩)], 5, .nil⟩, fun k => q.length - k.1,
      ⟨⟨0, by omega⟩, Le.tl (Ls := []) (y := none) [] (by simp -dsimp -implicitDefEqProofs (maxSteps := 1000000) only [go_sem, ↓reduceIte, Nat.reduceAdd, Nat.reduceSub, Nat.reduceMul, Nat.reduceLT, Nat.reduceLeDiff, Nat.reduceEqDiff, Nat.reduceBEq, Nat.reduceBNe, Int.reduceToNat, Int.reduceLT, Int.reduceLE, Int.reduceNeg, reduceCtorEq, Int.reduceEq, Int.reduceNe]) ?_ (by simp) (by simp [sg]) trivial⟩, fun k => ?_⟩
    · simp -dsimp -implicitDefEqProofs (maxSteps := 1000000) only [go_sem, ↓reduceIte, Nat.reduceAdd, Nat.reduceSub, Nat.reduceMul, Nat.reduceLT, Nat.reduceLeDiff, Nat.reduceEqDiff, Nat.reduceBEq, Nat.reduceBNe, Int.reduceToNat, Int.reduceLT, Int.reduceLE, Int.reduceNeg, reduceCtorEq, Int.reduceEq, Int.reduceNe]
      exact ⟨renL_F (by simp -dsimp -implicitDefEqProofs (maxSteps := 1000000) only [go_sem, ↓reduceIte, Nat.reduceAdd, Nat.reduceSub, Nat.reduceMul, Nat.reduceLT, Nat.reduceLeDiff, Nat.reduceEqDiff, Nat.reduceBEq, Nat.reduceBNe, Int.reduceToNat, Int.reduceLT, Int.reduceLE, Int.reduceNeg, reduceCtorEq, Int.reduceEq, Int.reduceNe]), renL_cl2 (by rw [fillO_0, rangeGet rfl]) (clPx _), renL_F (by simp -dsimp -implicitDefEqProofs (maxSteps := 1000000) only [go_sem, ↓reduceIte, Nat.reduceAdd, Nat.reduceSub, Nat.reduceMul, Nat.reduceLT, Nat.reduceLeDiff, Nat.reduceEqDiff, Nat.reduceBEq, Nat.reduceBNe, Int.reduceToNat, Int.reduceLT, Int.reduceLE, Int.reduceNeg, reduceCtorEq, Int.reduceEq, Int.reduceNe]), renL_F (by simp -dsimp -implicitDefEqProofs (maxSteps := 1000000) only [go_sem, ↓reduceIte, Nat.reduceAdd, Nat.reduceSub, Nat.reduceMul, Nat.reduceLT, Nat.reduceLeDiff, Nat.reduceEqDiff, Nat.reduceBEq, Nat.reduceBNe, Int.reduceToNat, Int.reduceLT, Int.reduceLE, Int.reduceNeg, reduceCtorEq, Int.reduceEq, Int.reduceNe]), renL_F (by simp -dsimp -implicitDefEqProofs (maxSteps := 1000000) only [go_sem, ↓reduceIte, Nat.reduceAdd, Nat.reduceSub, Nat.reduceMul, Nat.reduceLT, Nat.reduceLeDiff, Nat.reduceEqDiff, Nat.reduceBEq, Nat.reduceBNe, Int.reduceToNat, Int.reduceLT, Int.reduceLE, Int.reduceNeg, reduceCtorEq, Int.reduceEq, Int.reduceNe])⟩
    obtain ⟨k, hk⟩ := k
    simp -dsimp -implicitDefEqProofs (maxSteps := 1000000) only [go_sem, ↓reduceIte, Nat.reduceAdd, Nat.reduceSub, Nat.reduceMul, Nat.reduceLT, Nat.reduceLeDiff, Nat.reduceEqDiff, Nat.reduceBEq, Nat.reduceBNe, Int.reduceToNat, Int.reduceLT, Int.reduceLE, Int.reduceNeg, reduceCtorEq, Int.reduceEq, Int.reduceNe]
    refine ⟨fun hk' => ?_, fun hout => ?_⟩
    · have hkl : k < q.length := by omega
      have ek := wrA1 (a := k) (by omega)
      obtain ⟨m1, m2⟩ := mod_lt2 (hqen ▸ hkl)
      obtain ⟨i, hi⟩ : ∃ i, k % u = i := ⟨_, rfl⟩
      obtain ⟨j, hj⟩ : ∃ j, k / u = j := ⟨_, rfl⟩
      have hkij : k = j * u + i := by rw [← hi, ← hj]; exact (Nat.div_add_mod' k u).symm
      rw [hi] at m1
      rw [hj] at m2
      have hg := getD_some hkl
      have t1 := tmodN k u
      have t2 := tdivN k u
      rw [hi] at t1
      rw [hj] at t2
      have u0 : ¬ (u : Int) = 0 := by omega
      have z1 : wr (x' + (i : Int)) = x' + i := wr_in (by omega) (by omega)
      have z2 : wr (y' + (j : Int)) = y' + j := wr_in (by omega) (by omega)
      have z3 : wr (j : Int) = j := wrN (by omega)
      have hbd := hok (q.getD k 0) (List.mem_of_getElem? hg)
      have hh := has71 ⟨w, h, p⟩ (x' + i) (y' + j)
      simp -dsimp -implicitDefEqProofs (maxSteps := 1000000) only [go_sem, ↓reduceIte, Nat.reduceAdd, Nat.reduceSub, Nat.reduceMul, Nat.reduceLT, Nat.reduceLeDiff, Nat.reduceEqDiff, Nat.reduceBEq, Nat.reduceBNe, Int.reduceToNat, Int.reduceLT, Int.reduceLE, Int.reduceNeg, reduceCtorEq, Int.reduceEq, Int.reduceNe, hg, pxC_get, Int.natCast_nonneg, Int.toNat_natCast, Nat.zero_add, hk']
      refine AtCode.draw 14 [([], []), ([], []), ([], []), ([2], []), ([1, 2, 3], []), ([0, 1, 2, 3, 4], []), ([], []), ([], []), ([], []), ([8], []), ([7, 8, 9], []), ([6, 7, 8, 9, 10], []), ([0, 1, 2, 3, 4, 5], []), ([0, 1, 2, 3, 4, 5, 6, 7, 8, 9, 10, 11, 12], [])] (by kernel_rfl) ?_
      simp -dsimp -implicitDefEqProofs (maxSteps := 1000000) only [go_sem, ↓reduceIte, Nat.reduceAdd, Nat.reduceSub, Nat.reduceMul, Nat.reduceLT, Nat.reduceLeDiff, Nat.reduceEqDiff, Nat.reduceBEq, Nat.reduceBNe, Int.reduceToNat, Int.reduceLT, Int.reduceLE, Int.reduceNeg, reduceCtorEq, Int.reduceEq, Int.reduceNe, t1, t2, u0, z1, z2, z3]
      by_cases h0 : q.getD k 0 = 0
      · have h0' : ¬ 0 < q.getD k 0 := by omega
        simp -dsimp -implicitDefEqProofs (maxSteps := 1000000) only [go_sem, ↓reduceIte, Nat.reduceAdd, Nat.reduceSub, Nat.reduceMul, Nat.reduceLT, Nat.reduceLeDiff, Nat.reduceEqDiff, Nat.reduceBEq, Nat.reduceBNe, Int.reduceToNat, Int.reduceLT, Int.reduceLE, Int.reduceNeg, reduceCtorEq, Int.reduceEq, Int.reduceNe, h0']
        rw [hkij] at h0
        intros
        refine ⟨⟨k + 1, by omega⟩, by show q.length - (k + 1) < q.length - k; omega, Le.tl (Ls := []) (y := none) [] (by simp -dsimp -implicitDefEqProofs (maxSteps := 1000000) only [go_sem, ↓reduceIte, Nat.reduceAdd, Nat.reduceSub, Nat.reduceMul, Nat.reduceLT, Nat.reduceLeDiff, Nat.reduceEqDiff, Nat.reduceBEq, Nat.reduceBNe, Int.reduceToNat, Int.reduceLT, Int.reduceLE, Int.reduceNeg, reduceCtorEq, Int.reduceEq, Int.reduceNe, ek]) ?_ (by simp) (by simp [sg]) trivial⟩
        simp -dsimp -implicitDefEqProofs (maxSteps := 1000000) only [go_sem, ↓reduceIte, Nat.reduceAdd, Nat.reduceSub, Nat.reduceMul, Nat.reduceLT, Nat.reduceLeDiff, Nat.reduceEqDiff, Nat.reduceBEq, Nat.reduceBNe, Int.reduceToNat, Int.reduceLT, Int.reduceLE, Int.reduceNeg, reduceCtorEq, Int.reduceEq, Int.reduceNe]
        refine ⟨renL_F (by simp -dsimp -implicitDefEqProofs (maxSteps := 1000000) only [go_sem, ↓reduceIte, Nat.reduceAdd, Nat.reduceSub, Nat.reduceMul, Nat.reduceLT, Nat.reduceLeDiff, Nat.reduceEqDiff, Nat.reduceBEq, Nat.reduceBNe, Int.reduceToNat, Int.reduceLT, Int.reduceLE, Int.reduceNeg, reduceCtorEq, Int.reduceEq, Int.reduceNe]), renL_cl2 (congrArg pxC (fillO_skip fun k0 hk0 ho => ?_)) (clPx _), renL_F (by simp -dsimp -implicitDefEqProofs (maxSteps := 1000000) only [go_sem, ↓reduceIte, Nat.reduceAdd, Nat.reduceSub, Nat.reduceMul, Nat.reduceLT, Nat.reduceLeDiff, Nat.reduceEqDiff, Nat.reduceBEq, Nat.reduceBNe, Int.reduceToNat, Int.reduceLT, Int.reduceLE, Int.reduceNeg, reduceCtorEq, Int.reduceEq, Int.reduceNe]), renL_F (by simp -dsimp -implicitDefEqProofs (maxSteps := 1000000) only [go_sem, ↓reduceIte, Nat.reduceAdd, Nat.reduceSub, Nat.reduceMul, Nat.reduceLT, Nat.reduceLeDiff, Nat.reduceEqDiff, Nat.reduceBEq, Nat.reduceBNe, Int.reduceToNat, Int.reduceLT, Int.reduceLE, Int.reduceNeg, reduceCtorEq, Int.reduceEq, Int.reduceNe]), renL_F (by simp -dsimp -implicitDefEqProofs (maxSteps := 1000000) only [go_sem, ↓reduceIte, Nat.reduceAdd, Nat.reduceSub, Nat.reduceMul, Nat.reduceLT, Nat.reduceLeDiff, Nat.reduceEqDiff, Nat.reduceBEq, Nat.reduceBNe, Int.reduceToNat, Int.reduceLT, Int.reduceLE, Int.reduceNeg, reduceCtorEq, Int.reduceEq, Int.reduceNe])⟩
        rw [hkij] at ho
        exact ov_skip0 m1 m2 h0 ho
      have h0' : 0 < q.getD k 0 := by omega
      simp -dsimp -implicitDefEqProofs (maxSteps := 1000000) only [go_sem, ↓reduceIte, Nat.reduceAdd, Nat.reduceSub, Nat.reduceMul, Nat.reduceLT, Nat.reduceLeDiff, Nat.reduceEqDiff, Nat.reduceBEq, Nat.reduceBNe, Int.reduceToNat, Int.reduceLT, Int.reduceLE, Int.reduceNeg, reduceCtorEq, Int.reduceEq, Int.reduceNe, h0']
      intros
      refine AtFn.pure0 hh ?_
      by_cases hb : hasB ⟨w, h, p⟩ (x' + i) (y' + j) = true
      · obtain ⟨i', j', e1, e2, f1, f2⟩ := has_of hb
        have hil := idx_lt (i := i') (j := j') (w := w) (h := h) f1 f2
        rw [e1, e2] at hb
        have b1 := wrM (a := j') (b := w) (by omega)
        have b2 := wrA (a := j' * w) (b := i') (by omega)
        have l1 : ((j' * w + i' : Nat) : Int) < (p.length : Int) := by omega
        obtain ⟨v0, g2⟩ := fillO_get (f := ovF ⟨u, v, q⟩ p w x' y') (z := fun k => p.getD k 0) (ord := ovO ⟨u, v, q⟩ w x' y') (n := k) (show j' * w + i' < p.length by omega)
        simp -dsimp -implicitDefEqProofs (maxSteps := 1000000) only [go_sem, ↓reduceIte, Nat.reduceAdd, Nat.reduceSub, Nat.reduceMul, Nat.reduceLT, Nat.reduceLeDiff, Nat.reduceEqDiff, Nat.reduceBEq, Nat.reduceBNe, Int.reduceToNat, Int.reduceLT, Int.reduceLE, Int.reduceNeg, reduceCtorEq, Int.reduceEq, Int.reduceNe, hb, e1, e2, b1, b2, l1, g2, pxC_len, fillO_len, pxC_get, Int.natCast_nonneg, Int.toNat_natCast, Nat.zero_add]
        intros
        refine ⟨⟨k + 1, by omega⟩, by show q.length - (k + 1) < q.length - k; omega, Le.tl (Ls := []) (y := none) [] (by simp -dsimp -implicitDefEqProofs (maxSteps := 1000000) only [go_sem, ↓reduceIte, Nat.reduceAdd, Nat.reduceSub, Nat.reduceMul, Nat.reduceLT, Nat.reduceLeDiff, Nat.reduceEqDiff, Nat.reduceBEq, Nat.reduceBNe, Int.reduceToNat, Int.reduceLT, Int.reduceLE, Int.reduceNeg, reduceCtorEq, Int.reduceEq, Int.reduceNe, ek]) ?_ (by simp) (by simp [sg]) trivial⟩
        simp -dsimp -implicitDefEqProofs (maxSteps := 1000000) only [go_sem, ↓reduceIte, Nat.reduceAdd, Nat.reduceSub, Nat.reduceMul, Nat.reduceLT, Nat.reduceLeDiff, Nat.reduceEqDiff, Nat.reduceBEq, Nat.reduceBNe, Int.reduceToNat, Int.reduceLT, Int.reduceLE, Int.reduceNeg, reduceCtorEq, Int.reduceEq, Int.reduceNe]
        refine ⟨renL_F (by simp -dsimp -implicitDefEqProofs (maxSteps := 1000000) only [go_sem, ↓reduceIte, Nat.reduceAdd, Nat.reduceSub, Nat.reduceMul, Nat.reduceLT, Nat.reduceLeDiff, Nat.reduceEqDiff, Nat.reduceBEq, Nat.reduceBNe, Int.reduceToNat, Int.reduceLT, Int.reduceLE, Int.reduceNeg, reduceCtorEq, Int.reduceEq, Int.reduceNe]), renL_cl2 (fillO_set (by omega) (fun k0 _ => by rw [hkij]; exact ov_set_iff m1 m2 e1 e2 f1 k0) ?_) (clPx _), renL_F (by simp -dsimp -implicitDefEqProofs (maxSteps := 1000000) only [go_sem, ↓reduceIte, Nat.reduceAdd, Nat.reduceSub, Nat.reduceMul, Nat.reduceLT, Nat.reduceLeDiff, Nat.reduceEqDiff, Nat.reduceBEq, Nat.reduceBNe, Int.reduceToNat, Int.reduceLT, Int.reduceLE, Int.reduceNeg, reduceCtorEq, Int.reduceEq, Int.reduceNe]), renL_F (by simp -dsimp -implicitDefEqProofs (maxSteps := 1000000) only [go_sem, ↓reduceIte, Nat.reduceAdd, Nat.reduceSub, Nat.reduceMul, Nat.reduceLT, Nat.reduceLeDiff, Nat.reduceEqDiff, Nat.reduceBEq, Nat.reduceBNe, Int.reduceToNat, Int.reduceLT, Int.reduceLE, Int.reduceNeg, reduceCtorEq, Int.reduceEq, Int.reduceNe]), renL_F (by simp -dsimp -implicitDefEqProofs (maxSteps := 1000000) only [go_sem, ↓reduceIte, Nat.reduceAdd, Nat.reduceSub, Nat.reduceMul, Nat.reduceLT, Nat.reduceLeDiff, Nat.reduceEqDiff, Nat.reduceBEq, Nat.reduceBNe, Int.reduceToNat, Int.reduceLT, Int.reduceLE, Int.reduceNeg, reduceCtorEq, Int.reduceEq, Int.reduceNe])⟩
        rw [hkij] at h0 ⊢
        exact ov_val m1 m2 e1 e2 f1 h0
      · have hb' : hasB ⟨w, h, p⟩ (x' + i) (y' + j) = false := by simpa using hb
        simp -dsimp -implicitDefEqProofs (maxSteps := 1000000) only [go_sem, ↓reduceIte, Nat.reduceAdd, Nat.reduceSub, Nat.reduceMul, Nat.reduceLT, Nat.reduceLeDiff, Nat.reduceEqDiff, Nat.reduceBEq, Nat.reduceBNe, Int.reduceToNat, Int.reduceLT, Int.reduceLE, Int.reduceNeg, reduceCtorEq, Int.reduceEq, Int.reduceNe, hb']
        intros
        refine ⟨⟨k + 1, by omega⟩, by show q.length - (k + 1) < q.length - k; omega, Le.tl (Ls := []) (y := none) [] (by simp -dsimp -implicitDefEqProofs (maxSteps := 1000000) only [go_sem, ↓reduceIte, Nat.reduceAdd, Nat.reduceSub, Nat.reduceMul, Nat.reduceLT, Nat.reduceLeDiff, Nat.reduceEqDiff, Nat.reduceBEq, Nat.reduceBNe, Int.reduceToNat, Int.reduceLT, Int.reduceLE, Int.reduceNeg, reduceCtorEq, Int.reduceEq, Int.reduceNe, ek]) ?_ (by simp) (by simp [sg]) trivial⟩
        simp -dsimp -implicitDefEqProofs (maxSteps := 1000000) only [go_sem, ↓reduceIte, Nat.reduceAdd, Nat.reduceSub, Nat.reduceMul, Nat.reduceLT, Nat.reduceLeDiff, Nat.reduceEqDiff, Nat.reduceBEq, Nat.reduceBNe, Int.reduceToNat, Int.reduceLT, Int.reduceLE, Int.reduceNeg, reduceCtorEq, Int.reduceEq, Int.reduceNe]
        refine ⟨renL_F (by simp -dsimp -implicitDefEqProofs (maxSteps := 1000000) only [go_sem, ↓reduceIte, Nat.reduceAdd, Nat.reduceSub, Nat.reduceMul, Nat.reduceLT, Nat.reduceLeDiff, Nat.reduceEqDiff, Nat.reduceBEq, Nat.reduceBNe, Int.reduceToNat, Int.reduceLT, Int.reduceLE, Int.reduceNeg, reduceCtorEq, Int.reduceEq, Int.reduceNe]), renL_cl2 (congrArg pxC (fillO_skip fun k0 hk0 ho => ?_)) (clPx _), renL_F (by simp -dsimp -implicitDefEqProofs (maxSteps := 1000000) only [go_sem, ↓reduceIte, Nat.reduceAdd, Nat.reduceSub, Nat.reduceMul, Nat.reduceLT, Nat.reduceLeDiff, Nat.reduceEqDiff, Nat.reduceBEq, Nat.reduceBNe, Int.reduceToNat, Int.reduceLT, Int.reduceLE, Int.reduceNeg, reduceCtorEq, Int.reduceEq, Int.reduceNe]), renL_F (by simp -dsimp -implicitDefEqProofs (maxSteps := 1000000) only [go_sem, ↓reduceIte, Nat.reduceAdd, Nat.reduceSub, Nat.reduceMul, Nat.reduceLT, Nat.reduceLeDiff, Nat.reduceEqDiff, Nat.reduceBEq, Nat.reduceBNe, Int.reduceToNat, Int.reduceLT, Int.reduceLE, Int.reduceNeg, reduceCtorEq, Int.reduceEq, Int.reduceNe]), renL_F (by simp -dsimp -implicitDefEqProofs (maxSteps := 1000000) only [go_sem, ↓reduceIte, Nat.reduceAdd, Nat.reduceSub, Nat.reduceMul, Nat.reduceLT, Nat.reduceLeDiff, Nat.reduceEqDiff, Nat.reduceBEq, Nat.reduceBNe, Int.reduceToNat, Int.reduceLT, Int.reduceLE, Int.reduceNeg, reduceCtorEq, Int.reduceEq, Int.reduceNe])⟩
        rw [hkij] at ho
        exact ov_skipH m1 m2 hb' (hlen ▸ hk0) ho
    · obtain rfl : k = q.length := by omega
      rw [if_pos (by rw [pxC_len, fillO_len]; omega), takePx _ _ (fillO_len _ _ _ _ _), fillO_n (fun k0 _ => ovO_le (by rw [hqen]; exact Nat.le_refl _) p)]
  · have hc' : (vaB a && vaB b) = false := by simpa using hc
    refine pE hc' ?_
    obtain ⟨w, h, p⟩ := a
    obtain ⟨u, v, q⟩ := b
    refine PFun.intro 400 mixed Tryd.func29 (by kernel_rfl) rfl (by first | exact .v _ | (simp [Cl_v, Cl_t, Cl_g, Cl_fn, Cl_rp, Cl_ro]; done) | (simp [Cl_v, Cl_t, Cl_g, Cl_fn, Cl_rp, Cl_ro, or_imp, forall_and]; done) | (split <;> simp [Cl_v, Cl_t, Cl_g, Cl_fn, Cl_rp, Cl_ro])) (Nat.le_of_ble_eq_true rfl) ?_; rw [Tryd.ntmps29, Tryd.results29]
    simp -dsimp -implicitDefEqProofs (maxSteps := 1000000) only [go_sem, ↓reduceIte, Nat.reduceAdd, Nat.reduceSub, Nat.reduceMul, Nat.reduceLT, Nat.reduceLeDiff, Nat.reduceEqDiff, Nat.reduceBEq, Nat.reduceBNe, Int.reduceToNat, Int.reduceLT, Int.reduceLE, Int.reduceNeg, reduceCtorEq, Int.reduceEq, Int.reduceNe]
    refine AtFn.pure0 hv ?_
    simp -dsimp -implicitDefEqProofs (maxSteps := 1000000) only [go_sem, ↓reduceIte, Nat.reduceAdd, Nat.reduceSub, Nat.reduceMul, Nat.reduceLT, Nat.reduceLeDiff, Nat.reduceEqDiff, Nat.reduceBEq, Nat.reduceBNe, Int.reduceToNat, Int.reduceLT, Int.reduceLE, Int.reduceNeg, reduceCtorEq, Int.reduceEq, Int.reduceNe]
    repeat' (first | (apply And.intro <;> (try intro _) <;> try simp -dsimp -implicitDefEqProofs (maxSteps := 1000000) only [go_sem, ↓reduceIte, Nat.reduceAdd, Nat.reduceSub, Nat.reduceMul, Nat.reduceLT, Nat.reduceLeDiff, Nat.reduceEqDiff, Nat.reduceBEq, Nat.reduceBNe, Int.reduceToNat, Int.reduceLT, Int.reduceLE, Int.reduceNeg, reduceCtorEq, Int.reduceEq, Int.reduceNe]) | (refine AtFn.pure0 hv2 ?_; try simp -dsimp -implicitDefEqProofs (maxSteps := 1000000) only [go_sem, ↓reduceIte, Nat.reduceAdd, Nat.reduceSub, Nat.reduceMul, Nat.reduceLT, Nat.reduceLeDiff, Nat.reduceEqDiff, Nat.reduceBEq, Nat.reduceBNe, Int.reduceToNat, Int.reduceLT, Int.reduceLE, Int.reduceNeg, reduceCtorEq, Int.reduceEq, Int.reduceNe]) | (refine AtFn.pure0 (none53 2) ?_; try simp -dsimp -implicitDefEqProofs (maxSteps := 1000000) only [go_sem, ↓reduceIte, Nat.reduceAdd, Nat.reduceSub, Nat.reduceMul, Nat.reduceLT, Nat.reduceLeDiff, Nat.reduceEqDiff, Nat.reduceBEq, Nat.reduceBNe, Int.reduceToNat, Int.reduceLT, Int.reduceLE, Int.reduceNeg, reduceCtorEq, Int.reduceEq, Int.reduceNe]))
    all_goals (exfalso; simp_all)
end

section
set_option maxRecDepth 20000
theorem flat_get {α : Type} {f : α → List UInt8} {n : Nat} : ∀ {L : List α}, (∀ x ∈ L, (f x).length = n) → ∀ {k c : Nat} {x : α}, L[k]? = some x → c < n → (L.flatMap f)[k * n + c]? = (f x)[c]?
  | [], _, k, c, x, h, _ => by simp at h
  | a :: L, hl, k, c, x, h, hc => by
    rw [List.flatMap_cons]
    have ha := hl a List.mem_cons_self
    cases k with
    | zero =>
      have : a = x := Option.some.inj h
      subst this
      rw [List.getElem?_append_left (by omega), Nat.zero_mul, Nat.zero_add]
    | succ k =>
      rw [List.getElem?_append_right (by rw [ha, Nat.succ_mul]; omega), ha, show (k + 1) * n + c - n = k * n + c by rw [Nat.succ_mul]; omega]
      exact flat_get (fun x hx => hl x (List.mem_cons_of_mem _ hx)) (by simpa using h) hc
structure TxS (w h : Nat) (p : List Int) (S : List UInt8) : Prop where
  w1 : 1 ≤ w
  w2 : w ≤ 256
  h1 : 1 ≤ h
  h2 : h ≤ 256
  len : p.length = w * h
  ok : okP p
  txt : (rowsP w p).flatMap rowT = S
theorem TxS.rows {w h : Nat} {p : List Int} {S : List UInt8} (H : TxS w h p S) : ∀ k, k < h → (rowsP w p)[k]? = some ((p.drop ((h - 1 - k) * w)).take w) := fun k hk => rowsP_get H.w1 H.len hk
theorem TxS.rlen {w h : Nat} {p : List Int} {S : List UInt8} (H : TxS w h p S) : (rowsP w p).length = h := rowsP_len H.w1 H.len
theorem TxS.each {w h : Nat} {p : List Int} {S : List UInt8} (H : TxS w h p S) : ∀ r ∈ rowsP w p, r.length = w ∧ okP r := fun r hr => by
  obtain ⟨k, hk⟩ := List.getElem?_of_mem hr
  have hkl : k < (rowsP w p).length := (List.getElem?_eq_some_iff.1 hk).1
  rw [H.rlen] at hkl
  rw [H.rows k hkl] at hk
  rw [← Option.some.inj hk]
  exact ⟨row_len H.len hkl, fun x hx => H.ok x (List.mem_of_mem_drop (List.mem_of_mem_take hx))⟩
theorem TxS.text {w h : Nat} {p : List Int} {S : List UInt8} (H : TxS w h p S) : textP ⟨w, h, p⟩ = (S, 0) := by
  unfold textP
  rw [if_pos (vaB_mk H.w1 H.w2 H.h1 H.h2 H.len)]
  show ((rowsP w p).flatMap rowT, (0 : Int)) = _
  rw [H.txt]
end

section
set_option maxRecDepth 20000
attribute [local go_sem] clPxT eqk50'
theorem over_len (b : Ra) (p : List Int) (aw : Nat) (x y : Int) : ((List.range p.length).map (ovF b p aw x y)).length = p.length := by simp
theorem ovF_get {b : Ra} {p : List Int} {aw : Nat} {x y : Int} {k : Nat} (h : k < p.length) : ((List.range p.length).map (ovF b p aw x y)).getD k 0 = ovF b p aw x y k := by
  rw [List.getD, List.getElem?_map, List.getElem?_range h]; rfl
theorem over_twice (b : Ra) (p : List Int) (aw : Nat) (x y : Int) : (List.range ((List.range p.length).map (ovF b p aw x y)).length).map (ovF b ((List.range p.length).map (ovF b p aw x y)) aw x y) = (List.range p.length).map (ovF b p aw x y) := by
  rw [over_len]
  refine List.map_congr_left fun k hk => ?_
  have hk := List.mem_range.1 hk
  have e := ovF_get (b := b) (aw := aw) (x := x) (y := y) hk
  generalize hxp : (List.range p.length).map (ovF b p aw x y) = xp at *
  unfold ovF at e ⊢
  split
  · rfl
  · rename_i hn
    rw [if_neg hn] at e
    rw [e]
theorem over_none {w h : Nat} {p : List Int} {aw : Nat} {x y : Int} : (List.range p.length).map (ovF (mkR w h fun _ _ => 0) p aw x y) = p := by
  refine Eq.trans (List.map_congr_left fun k hk => ?_) (rangeGet (p := p) rfl)
  unfold ovF
  rw [if_neg]
  rintro ⟨hb, hn⟩
  obtain ⟨i, j, e1, e2, hi, hj⟩ := has_of (w := w) (h := h) (p := (mkR w h fun _ _ => 0).p) hb
  rw [e1, e2] at hn
  exact hn (px_mk (f := fun _ _ => 0) hi hj)
theorem over7 (a b : Ra) (ha : okP a.p) (hb : okP b.p) (x y : Int) : PFun Tryd.prog 7 [RaA a, RaA b, .g [I x, I y]] (Bo true) := by
  have hv := valid27 a
  have hv2 := valid27 b
  refine PFun.intro 400 mixed Tryd.func7 (by kernel_rfl) rfl (by first | exact .v _ | (simp [Cl_v, Cl_t, Cl_g, Cl_fn, Cl_rp, Cl_ro]; done) | (simp [Cl_v, Cl_t, Cl_g, Cl_fn, Cl_rp, Cl_ro, or_imp, forall_and]; done) | (split <;> simp [Cl_v, Cl_t, Cl_g, Cl_fn, Cl_rp, Cl_ro])) (Nat.le_of_ble_eq_true rfl) ?_; rw [Tryd.ntmps7, Tryd.results7]
  simp -dsimp -implicitDefEqProofs (maxSteps := 1000000) only [go_sem, ↓reduceIte, Nat.reduceAdd, Nat.reduceSub, Nat.reduceMul, Nat.reduceLT, Nat.reduceLeDiff, Nat.reduceEqDiff, Nat.reduceBEq, Nat.reduceBNe, Int.reduceToNat, Int.reduceLT, Int.reduceLE, Int.reduceNeg, reduceCtorEq, Int.reduceEq, Int.reduceNe]
  refine AtFn.pure (few2 a b) ?_
  simp -dsimp -implicitDefEqProofs (maxSteps := 1000000) only [go_sem, ↓reduceIte, Nat.reduceAdd, Nat.reduceSub, Nat.reduceMul, Nat.reduceLT, Nat.reduceLeDiff, Nat.reduceEqDiff, Nat.reduceBEq, Nat.reduceBNe, Int.reduceToNat, Int.reduceLT, Int.reduceLE, Int.reduceNeg, reduceCtorEq, Int.reduceEq, Int.reduceNe]
  by_cases hl : a.p.length ≤ 70000 ∧ b.p.length ≤ 70000
  rotate_left
  · have : (decide (a.p.length ≤ 70000) && decide (b.p.length ≤ 70000)) = false := by
      rw [Bool.eq_false_iff]; simpa using hl
    simp -dsimp -implicitDefEqProofs (maxSteps := 1000000) only [go_sem, ↓reduceIte, Nat.reduceAdd, Nat.reduceSub, Nat.reduceMul, Nat.reduceLT, Nat.reduceLeDiff, Nat.reduceEqDiff, Nat.reduceBEq, Nat.reduceBNe, Int.reduceToNat, Int.reduceLT, Int.reduceLE, Int.reduceNeg, reduceCtorEq, Int.reduceEq, Int.reduceNe, this]
    refine AtFn.pure0 awake13 ?_
    simp -dsimp -implicitDefEqProofs (maxSteps := 1000000) only [go_sem, ↓reduceIte, Nat.reduceAdd, Nat.reduceSub, Nat.reduceMul, Nat.reduceLT, Nat.reduceLeDiff, Nat.reduceEqDiff, Nat.reduceBEq, Nat.reduceBNe, Int.reduceToNat, Int.reduceLT, Int.reduceLE, Int.reduceNeg, reduceCtorEq, Int.reduceEq, Int.reduceNe]
  simp -dsimp -implicitDefEqProofs (maxSteps := 1000000) only [go_sem, ↓reduceIte, Nat.reduceAdd, Nat.reduceSub, Nat.reduceMul, Nat.reduceLT, Nat.reduceLeDiff, Nat.reduceEqDiff, Nat.reduceBEq, Nat.reduceBNe, Int.reduceToNat, Int.reduceLT, Int.reduceLE, Int.reduceNeg, reduceCtorEq, Int.reduceEq, Int.reduceNe, hl.1, hl.2]
  refine AtFn.pure0 hv ?_
  by_cases hc : vaB a = true
  rotate_left
  · have hc' : vaB a = false := by simpa using hc
    simp -dsimp -implicitDefEqProofs (maxSteps := 1000000) only [go_sem, ↓reduceIte, Nat.reduceAdd, Nat.reduceSub, Nat.reduceMul, Nat.reduceLT, Nat.reduceLeDiff, Nat.reduceEqDiff, Nat.reduceBEq, Nat.reduceBNe, Int.reduceToNat, Int.reduceLT, Int.reduceLE, Int.reduceNeg, reduceCtorEq, Int.reduceEq, Int.reduceNe, hc']
    refine AtFn.pure0 awake13 ?_
    simp -dsimp -implicitDefEqProofs (maxSteps := 1000000) only [go_sem, ↓reduceIte, Nat.reduceAdd, Nat.reduceSub, Nat.reduceMul, Nat.reduceLT, Nat.reduceLeDiff, Nat.reduceEqDiff, Nat.reduceBEq, Nat.reduceBNe, Int.reduceToNat, Int.reduceLT, Int.reduceLE, Int.reduceNeg, reduceCtorEq, Int.reduceEq, Int.reduceNe]
  simp -dsimp -implicitDefEqProofs (maxSteps := 1000000) only [go_sem, ↓reduceIte, Nat.reduceAdd, Nat.reduceSub, Nat.reduceMul, Nat.reduceLT, Nat.reduceLeDiff, Nat.reduceEqDiff, Nat.reduceBEq, Nat.reduceBNe, Int.reduceToNat, Int.reduceLT, Int.reduceLE, Int.reduceNeg, reduceCtorEq, Int.reduceEq, Int.reduceNe, hc]
  refine AtFn.pure0 hv2 ?_
  by_cases hd : vaB b = true
  rotate_left
  · have hd' : vaB b = false := by simpa using hd
    simp -dsimp -implicitDefEqProofs (maxSteps := 1000000) only [go_sem, ↓reduceIte, Nat.reduceAdd, Nat.reduceSub, Nat.reduceMul, Nat.reduceLT, Nat.reduceLeDiff, Nat.reduceEqDiff, Nat.reduceBEq, Nat.reduceBNe, Int.reduceToNat, Int.reduceLT, Int.reduceLE, Int.reduceNeg, reduceCtorEq, Int.reduceEq, Int.reduceNe, hd']
    refine AtFn.pure0 awake13 ?_
    simp -dsimp -implicitDefEqProofs (maxSteps := 1000000) only [go_sem, ↓reduceIte, Nat.reduceAdd, Nat.reduceSub, Nat.reduceMul, Nat.reduceLT, Nat.reduceLeDiff, Nat.reduceEqDiff, Nat.reduceBEq, Nat.reduceBNe, Int.reduceToNat, Int.reduceLT, Int.reduceLE, Int.reduceNeg, reduceCtorEq, Int.reduceEq, Int.reduceNe]
  simp -dsimp -implicitDefEqProofs (maxSteps := 1000000) only [go_sem, ↓reduceIte, Nat.reduceAdd, Nat.reduceSub, Nat.reduceMul, Nat.reduceLT, Nat.reduceLeDiff, Nat.reduceEqDiff, Nat.reduceBEq, Nat.reduceBNe, Int.reduceToNat, Int.reduceLT, Int.reduceLE, Int.reduceNeg, reduceCtorEq, Int.reduceEq, Int.reduceNe, hd]
  obtain ⟨w, h, p, rfl, w1, w2, h1, h2, hlen⟩ := vaR_of hc
  obtain ⟨u, v, q, rfl, u1, u2, v1, v2, hqen⟩ := vaR_of hd
  have hN := prodN w2 h2
  obtain ⟨xp, hxp⟩ : ∃ xp, xp = (List.range p.length).map (ovF ⟨u, v, q⟩ p w x y) := ⟨_, rfl⟩
  have hxl : xp.length = p.length := by rw [hxp]; simp
  have hxv : vaB ⟨w, h, xp⟩ = true := vaB_mk w1 w2 h1 h2 (by rw [hxl, hlen])
  have o1 : overP ⟨w, h, p⟩ ⟨u, v, q⟩ x y = (⟨w, h, xp⟩, 0) := by
    unfold overP; rw [if_pos (by rw [hc, hd]; rfl), hxp]; rfl
  have o2 : overP ⟨w, h, xp⟩ ⟨u, v, q⟩ x y = (⟨w, h, xp⟩, 0) := by
    unfold overP; rw [if_pos (by rw [hxv, hd]; rfl)]
    show ((⟨w, h, (List.range xp.length).map (ovF ⟨u, v, q⟩ xp w x y)⟩, 0) : Ra × Int) = _
    rw [hxp, over_twice]
  have n1 : newP (u : Int) (v : Int) 0 = (mkR u v fun _ _ => 0, 0) := by
    have s1 : sideB (u : Int) = true := by simp [sideB]; omega
    have s2 : sideB (v : Int) = true := by simp [sideB]; omega
    unfold newP; rw [if_pos (by rw [s1, s2]; rfl)]; rfl
  have nv : vaB (mkR u v fun _ _ => 0) = true := vaB_mk u1 u2 v1 v2 (by simp)
  have o3 : overP ⟨w, h, p⟩ (mkR u v fun _ _ => 0) x y = (⟨w, h, p⟩, 0) := by
    unfold overP; rw [if_pos (by rw [hc, nv]; rfl)]
    show ((⟨w, h, (List.range p.length).map (ovF (mkR u v fun _ _ => 0) p w x y)⟩, 0) : Ra × Int) = _
    rw [over_none]
  have hxok : okP xp := by have := ok_over ha hb x y; rwa [o1] at this
  have c1 := over29 ⟨w, h, p⟩ ⟨u, v, q⟩ x y hb
  rw [o1] at c1
  have c2 := over29 ⟨w, h, xp⟩ ⟨u, v, q⟩ x y hb
  rw [o2] at c2
  have c3 := new33 (u : Int) (v : Int) 0
  rw [n1] at c3
  have c4 := over29 ⟨w, h, p⟩ (mkR u v fun _ _ => 0) x y (okP_mk fun _ _ _ _ => by omega)
  rw [o3] at c4
  have c5 := diff31 ⟨w, h, p⟩ ⟨w, h, xp⟩
  have hdf : diffP ⟨w, h, p⟩ ⟨w, h, xp⟩ = diffF w p xp := by
    unfold diffP; rw [if_pos (by rw [hc, hxv]; rfl), if_pos ⟨rfl, rfl⟩]; rfl
  rw [hdf] at c5
  refine AtFn.pure0 c1 ?_
  simp -dsimp -implicitDefEqProofs (maxSteps := 1000000) only [go_sem, ↓reduceIte, Nat.reduceAdd, Nat.reduceSub, Nat.reduceMul, Nat.reduceLT, Nat.reduceLeDiff, Nat.reduceEqDiff, Nat.reduceBEq, Nat.reduceBNe, Int.reduceToNat, Int.reduceLT, Int.reduceLE, Int.reduceNeg, reduceCtorEq, Int.reduceEq, Int.reduceNe]
  refine AtFn.pure0 c2 ?_
  simp -dsimp -implicitDefEqProofs (maxSteps := 1000000) only [go_sem, ↓reduceIte, Nat.reduceAdd, Nat.reduceSub, Nat.reduceMul, Nat.reduceLT, Nat.reduceLeDiff, Nat.reduceEqDiff, Nat.reduceBEq, Nat.reduceBNe, Int.reduceToNat, Int.reduceLT, Int.reduceLE, Int.reduceNeg, reduceCtorEq, Int.reduceEq, Int.reduceNe]
  refine AtFn.pure0 c3 ?_
  simp -dsimp -implicitDefEqProofs (maxSteps := 1000000) only [go_sem, ↓reduceIte, Nat.reduceAdd, Nat.reduceSub, Nat.reduceMul, Nat.reduceLT, Nat.reduceLeDiff, Nat.reduceEqDiff, Nat.reduceBEq, Nat.reduceBNe, Int.reduceToNat, Int.reduceLT, Int.reduceLE, Int.reduceNeg, reduceCtorEq, Int.reduceEq, Int.reduceNe]
  refine AtFn.pure0 c4 ?_
  simp -dsimp -implicitDefEqProofs (maxSteps := 1000000) only [go_sem, ↓reduceIte, Nat.reduceAdd, Nat.reduceSub, Nat.reduceMul, Nat.reduceLT, Nat.reduceLeDiff, Nat.reduceEqDiff, Nat.reduceBEq, Nat.reduceBNe, Int.reduceToNat, Int.reduceLT, Int.reduceLE, Int.reduceNeg, reduceCtorEq, Int.reduceEq, Int.reduceNe]
  refine AtFn.pure (sameT (a := ⟨w, h, xp⟩) hxok) ?_
  simp -dsimp -implicitDefEqProofs (maxSteps := 1000000) only [go_sem, ↓reduceIte, Nat.reduceAdd, Nat.reduceSub, Nat.reduceMul, Nat.reduceLT, Nat.reduceLeDiff, Nat.reduceEqDiff, Nat.reduceBEq, Nat.reduceBNe, Int.reduceToNat, Int.reduceLT, Int.reduceLE, Int.reduceNeg, reduceCtorEq, Int.reduceEq, Int.reduceNe]
  refine AtFn.pure (sameT (a := ⟨w, h, p⟩) ha) ?_
  simp -dsimp -implicitDefEqProofs (maxSteps := 1000000) only [go_sem, ↓reduceIte, Nat.reduceAdd, Nat.reduceSub, Nat.reduceMul, Nat.reduceLT, Nat.reduceLeDiff, Nat.reduceEqDiff, Nat.reduceBEq, Nat.reduceBNe, Int.reduceToNat, Int.reduceLT, Int.reduceLE, Int.reduceNeg, reduceCtorEq, Int.reduceEq, Int.reduceNe]
  refine AtFn.pure0 c5 ?_
  simp -dsimp -implicitDefEqProofs (maxSteps := 1000000) only [go_sem, ↓reduceIte, Nat.reduceAdd, Nat.reduceSub, Nat.reduceMul, Nat.reduceLT, Nat.reduceLeDiff, Nat.reduceEqDiff, Nat.reduceBEq, Nat.reduceBNe, Int.reduceToNat, Int.reduceLT, Int.reduceLE, Int.reduceNeg, reduceCtorEq, Int.reduceEq, Int.reduceNe, pxC_len]
  obtain ⟨⟨⟨dx, dy⟩, de⟩, hde⟩ : ∃ d, diffF w p xp = d := ⟨_, rfl⟩
  rw [hde]
  simp only
  refine ⟨{k : Nat // k ≤ p.length ∧ ∀ j, j < k → p.getD j 0 = xp.getD j 0}, fun k => ⟨145, tl [(3, .ptr 0 0 0), (7, .ptr 1 0 0), (15, .ptr 2 0 0), (16, I de), (105, .ro 1 (pxC p)), (106, I p.length), (107, I k.1)], [(2, ⟨2, [[I dx, I dy]]⟩), (1, ⟨3, [[I w, I h, .ro 1 (pxC xp)]]⟩), (0, ⟨3, [[I w, I h, .ro 1 (pxC p)]]⟩)], 3, .nil⟩, fun k => p.length - k.1,
    ⟨⟨0, by omega, by omega⟩, Le.tl (Ls := []) (y := none) [(1, 4), (2, 8)] (by simp -dsimp -implicitDefEqProofs (maxSteps := 1000000) only [go_sem, ↓reduceIte, Nat.reduceAdd, Nat.reduceSub, Nat.reduceMul, Nat.reduceLT, Nat.reduceLeDiff, Nat.reduceEqDiff, Nat.reduceBEq, Nat.reduceBNe, Int.reduceToNat, Int.reduceLT, Int.reduceLE, Int.reduceNeg, reduceCtorEq, Int.reduceEq, Int.reduceNe]) ?_ (by simp) (by simp [sg]) trivial⟩, fun k => ?_⟩
  · simp -dsimp -implicitDefEqProofs (maxSteps := 1000000) only [go_sem, ↓reduceIte, Nat.reduceAdd, Nat.reduceSub, Nat.reduceMul, Nat.reduceLT, Nat.reduceLeDiff, Nat.reduceEqDiff, Nat.reduceBEq, Nat.reduceBNe, Int.reduceToNat, Int.reduceLT, Int.reduceLE, Int.reduceNeg, reduceCtorEq, Int.reduceEq, Int.reduceNe]
    exact ⟨renL_F (by simp -dsimp -implicitDefEqProofs (maxSteps := 1000000) only [go_sem, ↓reduceIte, Nat.reduceAdd, Nat.reduceSub, Nat.reduceMul, Nat.reduceLT, Nat.reduceLeDiff, Nat.reduceEqDiff, Nat.reduceBEq, Nat.reduceBNe, Int.reduceToNat, Int.reduceLT, Int.reduceLE, Int.reduceNeg, reduceCtorEq, Int.reduceEq, Int.reduceNe]), renL_F (by simp -dsimp -implicitDefEqProofs (maxSteps := 1000000) only [go_sem, ↓reduceIte, Nat.reduceAdd, Nat.reduceSub, Nat.reduceMul, Nat.reduceLT, Nat.reduceLeDiff, Nat.reduceEqDiff, Nat.reduceBEq, Nat.reduceBNe, Int.reduceToNat, Int.reduceLT, Int.reduceLE, Int.reduceNeg, reduceCtorEq, Int.reduceEq, Int.reduceNe]), renL_F (by simp -dsimp -implicitDefEqProofs (maxSteps := 1000000) only [go_sem, ↓reduceIte, Nat.reduceAdd, Nat.reduceSub, Nat.reduceMul, Nat.reduceLT, Nat.reduceLeDiff, Nat.reduceEqDiff, Nat.reduceBEq, Nat.reduceBNe, Int.reduceToNat, Int.reduceLT, Int.reduceLE, Int.reduceNeg, reduceCtorEq, Int.reduceEq, Int.reduceNe])⟩
  obtain ⟨k, hk, hall⟩ := k
  simp -dsimp -implicitDefEqProofs (maxSteps := 1000000) only [go_sem, ↓reduceIte, Nat.reduceAdd, Nat.reduceSub, Nat.reduceMul, Nat.reduceLT, Nat.reduceLeDiff, Nat.reduceEqDiff, Nat.reduceBEq, Nat.reduceBNe, Int.reduceToNat, Int.reduceLT, Int.reduceLE, Int.reduceNeg, reduceCtorEq, Int.reduceEq, Int.reduceNe]
  refine ⟨fun hk' => ?_, fun hout => ?_⟩
  · have hkl : k < p.length := by omega
    have ek := wrA1 (a := k) (by omega)
    have l1 : (k : Int) < (xp.length : Int) := by omega
    have g1 := getD_some (p := p) hkl
    have g2 := getD_some (p := xp) (k := k) (by omega)
    have t1 := tmodN k w
    have t2 := tdivN k w
    have u0 : ¬ (w : Int) = 0 := by omega
    have t3 : wr ((k / w : Nat) : Int) = ((k / w : Nat) : Int) := wrN (by have := Nat.div_le_self k w; omega)
    refine AtCode.draw 11 [([], []), ([0], []), ([], []), ([0, 1, 2], []), ([0, 1, 2, 3], []), ([], []), ([5], []), ([], []), ([5, 6, 7], []), ([5, 6, 7, 8], []), ([0, 1, 2, 3, 4, 5, 6, 7, 8, 9], [])] (by kernel_rfl) ?_
    simp -dsimp -implicitDefEqProofs (maxSteps := 1000000) only [go_sem, ↓reduceIte, Nat.reduceAdd, Nat.reduceSub, Nat.reduceMul, Nat.reduceLT, Nat.reduceLeDiff, Nat.reduceEqDiff, Nat.reduceBEq, Nat.reduceBNe, Int.reduceToNat, Int.reduceLT, Int.reduceLE, Int.reduceNeg, reduceCtorEq, Int.reduceEq, Int.reduceNe, hk', l1, g1, g2, pxC_len, pxC_get, Int.natCast_nonneg, Int.toNat_natCast, Nat.zero_add]
    by_cases hq : p.getD k 0 = xp.getD k 0
    · simp -dsimp -implicitDefEqProofs (maxSteps := 1000000) only [go_sem, ↓reduceIte, Nat.reduceAdd, Nat.reduceSub, Nat.reduceMul, Nat.reduceLT, Nat.reduceLeDiff, Nat.reduceEqDiff, Nat.reduceBEq, Nat.reduceBNe, Int.reduceToNat, Int.reduceLT, Int.reduceLE, Int.reduceNeg, reduceCtorEq, Int.reduceEq, Int.reduceNe, hq]
      intros
      refine ⟨⟨k + 1, by omega, fun j hj => ?_⟩, by show p.length - (k + 1) < p.length - k; omega, Le.tl (Ls := []) (y := none) [] (by simp -dsimp -implicitDefEqProofs (maxSteps := 1000000) only [go_sem, ↓reduceIte, Nat.reduceAdd, Nat.reduceSub, Nat.reduceMul, Nat.reduceLT, Nat.reduceLeDiff, Nat.reduceEqDiff, Nat.reduceBEq, Nat.reduceBNe, Int.reduceToNat, Int.reduceLT, Int.reduceLE, Int.reduceNeg, reduceCtorEq, Int.reduceEq, Int.reduceNe, ek]) ?_ (by simp) (by simp [sg]) trivial⟩
      · by_cases hjk : j = k
        · rw [hjk]; exact hq
        · exact hall j (by omega)
      · simp -dsimp -implicitDefEqProofs (maxSteps := 1000000) only [go_sem, ↓reduceIte, Nat.reduceAdd, Nat.reduceSub, Nat.reduceMul, Nat.reduceLT, Nat.reduceLeDiff, Nat.reduceEqDiff, Nat.reduceBEq, Nat.reduceBNe, Int.reduceToNat, Int.reduceLT, Int.reduceLE, Int.reduceNeg, reduceCtorEq, Int.reduceEq, Int.reduceNe]
        exact ⟨renL_F (by simp -dsimp -implicitDefEqProofs (maxSteps := 1000000) only [go_sem, ↓reduceIte, Nat.reduceAdd, Nat.reduceSub, Nat.reduceMul, Nat.reduceLT, Nat.reduceLeDiff, Nat.reduceEqDiff, Nat.reduceBEq, Nat.reduceBNe, Int.reduceToNat, Int.reduceLT, Int.reduceLE, Int.reduceNeg, reduceCtorEq, Int.reduceEq, Int.reduceNe]), renL_F (by simp -dsimp -implicitDefEqProofs (maxSteps := 1000000) only [go_sem, ↓reduceIte, Nat.reduceAdd, Nat.reduceSub, Nat.reduceMul, Nat.reduceLT, Nat.reduceLeDiff, Nat.reduceEqDiff, Nat.reduceBEq, Nat.reduceBNe, Int.reduceToNat, Int.reduceLT, Int.reduceLE, Int.reduceNeg, reduceCtorEq, Int.reduceEq, Int.reduceNe]), renL_F (by simp -dsimp -implicitDefEqProofs (maxSteps := 1000000) only [go_sem, ↓reduceIte, Nat.reduceAdd, Nat.reduceSub, Nat.reduceMul, Nat.reduceLT, Nat.reduceLeDiff, Nat.reduceEqDiff, Nat.reduceBEq, Nat.reduceBNe, Int.reduceToNat, Int.reduceLT, Int.reduceLE, Int.reduceNeg, reduceCtorEq, Int.reduceEq, Int.reduceNe])⟩
    · have hdd : diffF w p xp = ((((k % w : Nat) : Int), ((k / w : Nat) : Int)), 0) := by
        unfold diffF
        rw [find_some (P := fun k => decide (¬ p.getD k 0 = xp.getD k 0)) hkl (decide_eq_true hq) (fun j hj => decide_eq_false (fun hn => hn (hall j hj)))]
      rw [hde] at hdd
      injection hdd with hd1 hd2
      injection hd1 with hd3 hd4
      subst hd2 hd3 hd4
      simp -dsimp -implicitDefEqProofs (maxSteps := 1000000) only [go_sem, ↓reduceIte, Nat.reduceAdd, Nat.reduceSub, Nat.reduceMul, Nat.reduceLT, Nat.reduceLeDiff, Nat.reduceEqDiff, Nat.reduceBEq, Nat.reduceBNe, Int.reduceToNat, Int.reduceLT, Int.reduceLE, Int.reduceNeg, reduceCtorEq, Int.reduceEq, Int.reduceNe, hq]
      intros
      refine AtCode.draw 19 [([], []), ([0], []), ([0, 1], []), ([0, 1, 2], []), ([0, 1, 2], []), ([0, 1, 2], []), ([0, 1, 2, 5], []), ([0, 1, 2, 4, 5, 6], []), ([0, 1, 2], []), ([0, 1, 2], []), ([0, 1, 2, 9], []), ([0, 1, 2, 8, 9, 10], []), ([0, 1, 2, 4, 5, 6, 7, 8, 9, 10, 11], []), ([0, 1, 2, 3, 4, 5, 6, 7, 8, 9, 10, 11, 12], []), ([0, 1, 2, 3, 4, 5, 6, 7, 8, 9, 10, 11, 12, 13], []), ([0, 1, 2, 3, 4, 5, 6, 7, 8, 9, 10, 11, 12, 13, 14], []), ([0, 1, 2, 3, 4, 5, 6, 7, 8, 9, 10, 11, 12, 13, 14, 15], []), ([0, 1, 2, 3, 4, 5, 6, 7, 8, 9, 10, 11, 12, 13, 14, 15, 16], []), ([0, 1, 2, 3, 4, 5, 6, 7, 8, 9, 10, 11, 12, 13, 14, 15, 16, 17], [])] (by kernel_rfl) ?_
      simp -dsimp -implicitDefEqProofs (maxSteps := 1000000) only [go_sem, ↓reduceIte, Nat.reduceAdd, Nat.reduceSub, Nat.reduceMul, Nat.reduceLT, Nat.reduceLeDiff, Nat.reduceEqDiff, Nat.reduceBEq, Nat.reduceBNe, Int.reduceToNat, Int.reduceLT, Int.reduceLE, Int.reduceNeg, reduceCtorEq, Int.reduceEq, Int.reduceNe, t1, t2, t3, u0]
      refine QFn.use _ awake13 (by simp -dsimp -implicitDefEqProofs (maxSteps := 1000000) only [go_sem, ↓reduceIte, Nat.reduceAdd, Nat.reduceSub, Nat.reduceMul, Nat.reduceLT, Nat.reduceLeDiff, Nat.reduceEqDiff, Nat.reduceBEq, Nat.reduceBNe, Int.reduceToNat, Int.reduceLT, Int.reduceLE, Int.reduceNeg, reduceCtorEq, Int.reduceEq, Int.reduceNe]) ?_
      simp -dsimp -implicitDefEqProofs (maxSteps := 1000000) only [go_sem, ↓reduceIte, Nat.reduceAdd, Nat.reduceSub, Nat.reduceMul, Nat.reduceLT, Nat.reduceLeDiff, Nat.reduceEqDiff, Nat.reduceBEq, Nat.reduceBNe, Int.reduceToNat, Int.reduceLT, Int.reduceLE, Int.reduceNeg, reduceCtorEq, Int.reduceEq, Int.reduceNe]
  · obtain rfl : k = p.length := by omega
    have hdd : diffF w p xp = ((0, 0), 4) := by
      unfold diffF
      rw [find_none (P := fun k => decide (¬ p.getD k 0 = xp.getD k 0)) (fun j hj => decide_eq_false (fun hn => hn (hall j hj)))]
    rw [hde] at hdd
    injection hdd with hd1 hd2
    subst hd2
    simp -dsimp -implicitDefEqProofs (maxSteps := 1000000) only [go_sem, ↓reduceIte, Nat.reduceAdd, Nat.reduceSub, Nat.reduceMul, Nat.reduceLT, Nat.reduceLeDiff, Nat.reduceEqDiff, Nat.reduceBEq, Nat.reduceBNe, Int.reduceToNat, Int.reduceLT, Int.reduceLE, Int.reduceNeg, reduceCtorEq, Int.reduceEq, Int.reduceNe]
    intros
    refine AtFn.pure0 awake13 ?_
    simp -dsimp -implicitDefEqProofs (maxSteps := 1000000) only [go_sem, ↓reduceIte, Nat.reduceAdd, Nat.reduceSub, Nat.reduceMul, Nat.reduceLT, Nat.reduceLeDiff, Nat.reduceEqDiff, Nat.reduceBEq, Nat.reduceBNe, Int.reduceToNat, Int.reduceLT, Int.reduceLE, Int.reduceNeg, reduceCtorEq, Int.reduceEq, Int.reduceNe]
end

end Go.Proofs.YtfmlhmfbhcfnpaaDoor
