/- What functions of the given program answer, part 4. Conditions: each theorem speaks for itself. -/
import Derived.Test.YtckbchkkjnahlaaBTy
import Derived.Test.YtckbchkkjnahlaaBF1
import Derived.Test.YtckbchkkjnahlaaBF2
import Derived.Test.YtckbchkkjnahlaaBF3
set_option linter.unusedSimpArgs false
set_option linter.unusedVariables false
namespace Go.Proofs.Ytckbchkkjnahlaa
open Go Go.Eng Go.RowKit
attribute [local go_sem ↓] qE_move qE_assign qE_pick qE_load qE_fieldAddr qE_indexAddr qE_extract qE_binOp qE_neg qE_not qE_convert qE_build qE_len qE_max2 qE_min2 qE_nilCheck qE_slice vc_end vc_skip vc_ret vc_seq vc_cond vc_block vc_exit vc_region vc_draw vc_loop vc_blk vc_lp vc_o_nil vc_o vc_o_guard onK_eq oK_move oK_assign oK_pick oK_load oK_fieldAddr oK_indexAddr oK_index oK_extract oK_binOp oK_unOp oK_convert oK_nilCheck oK_slice oK_build oK_len oK_max oK_min onN_eq oK_box oK_alloc oK_buildSlice oK_makeSlice onH_eq oK_store onA_eq oK_append oK_call oK_copy oK_cap oK_clear bV_add bV_sub bV_mul bV_quo bV_rem bV_or bV_shl bV_shr bV_eql bV_neq bV_lss bV_leq bV_gtr bV_geq vcQ_nil vcQ_cons vcQ_guard Q_move Q_assign Q_pick Q_load Q_fieldAddr Q_indexAddr Q_extract Q_binOp Q_unOp Q_convert Q_nilCheck Q_slice Q_build Q_len Q_alloc Q_makeSlice Q_buildSlice Q_call qE_index tailB_nil tailB_true onS_eq tailB_store onP_eq tailB_append onQ_eq onQB_eq loadE indexE
attribute [local go_sem] force_eq optK_some optE_some optE_none bK_v tK_t fnK_fn fyK_fn nK_ptr pK_ptr pK_rp brK_true brK_false brK_not evA_tmp evA_const evA_func putA_some putA_none pushA_eq slots_zero slots_nil tl_nil tl_cons find_cons find_nil setN_cons setN_nil dropN_nil dropN_cons loE_none loE_some hiE_none hiE_some slE_sl slE_ro bE_i bE_beq bE_bne bE_eql bE_neq intsA_nil intsA_cons gdK_b gdK_u popTo_blk popTo_c popTo_lp nilE_tmp nilE_int nilE_nil srcE_ro srcE_sl dstE_sl dstE_ez fin_eq res_nil res_tmp res_cell tup1 tup0 optA_some frz_v frz_ro frz_g frz_sl nm_v nm_ro nm_sl cells_v cells_g cells_ro cells_ptr cells_sl one_int one_bool one_slice oneA_v oneA_ro oneA_sl ofV_int ofV_bool ofV_string ofV_slice len_ro len_sl len_nil asI_int fill_nil fill_cons chunks_nil chunks_cons take_all DrawK_eq idR_eq addB_some roB_nil roB_cons sg_nil sg_cons ren_v ren_nil ren_ptr ren_sl ren_ro iK_ro iK_sl ixE_s takeA_00 takeA_s nil_eq maskE_eq i_InlQ i_tup2 i_RenF_nil i_RenF_cons wrap_wr brK_dec maskH_eq upd_get slots_succ Cl_v Cl_ro Cl_rp Cl_fn Cl_g Cl_t Bool.false_eq_true decide_true decide_false beq_self_eq_true true_and and_true ne_eq not_true not_false_eq_true List.elem_cons List.elem_nil List.contains_cons List.contains_nil List.getD_cons_zero List.getD_cons_succ Int.cast_ofNat_Int Bool.or_true Bool.true_or Bool.or_false Bool.false_or if_true if_false List.toList_toArray List.map_cons List.map_nil List.cons_append List.nil_append List.append_nil List.flatMap_cons List.flatMap_nil List.getElem?_cons_zero List.getElem?_cons_succ List.length_cons List.length_nil List.drop_succ_cons List.drop_zero List.take_succ_cons List.take_zero List.all_cons List.all_nil List.set_cons_zero List.set_cons_succ Option.bind_some Option.bind_none Option.map_some Option.map_none List.headD_cons List.tail_cons List.getElem?_toArray beq_true beq_false Bool.not_true Bool.not_false Bool.true_and Bool.and_true Bool.false_and Bool.and_false newCh Option.some.injEq exists_eq_left' sg_nil sg_cons List.mem_cons List.not_mem_nil forall_eq_or_imp forall_eq false_implies implies_true or_false false_or false_and and_false or_true true_or exists_false Option.isSome_some Option.isSome_none List.range_zero
attribute [local go_sem] T.ik2 T.us2 T.sz3 T.by3 T.ag3 T.pt3 T.ik3 T.us3 T.ze3 T.sz4 T.ag4 T.bo4 T.ik5 T.us5 T.st9 T.sz22 T.ag22 T.sl22 T.ar22 T.pt22 T.ik22 T.us22 T.sl25 T.ar25 T.pt25 T.ik25 T.us25 T.sz27 T.by27 T.ag27 T.ze27 T.fl27_0 T.fl27_1 T.bu27 T.sz30 T.ag30 T.sz32 T.ag32 T.ze32 T.fl32_0 T.fl32_1 T.fl32_2 T.fl32_3 T.bu32 T.sz34 T.by34 T.ag34 T.ze34 T.fl34_0 T.fl34_1 T.fl34_2 T.bu34 T.sz37 T.ag37 T.ze37 T.fl37_0 T.fl37_1 T.bu37 T.sl41 T.ik41 T.us41 T.sz44 T.by44 T.ag44 T.ze44 T.bu44 T.sz61 T.ag61 T.sl61 T.ar61 T.pt61 T.ik61 T.us61 T.ze61 T.sz66 T.by66 T.ag66 T.ze66 T.fl66_0 T.fl66_1 T.fl66_2 T.fl66_3 T.fl66_4 T.fl66_5 T.fl66_6 T.fl66_7 T.fl66_8 T.bu66 T.sl71 T.ik71 T.us71 T.sz80 T.ag80 T.ze80 T.sl81 T.ik94 T.us94 T.sl96 T.ar96 T.pt96 T.ik96 T.us96 T.sz98 T.ag98 T.sl98 T.ar98 T.pt98 T.ik98 T.us98 T.sz100 T.by100 T.ag100 T.ze100 T.fl100_0 T.fl100_1 T.bu100 T.sz101 T.by101 T.ag101 T.sl101 T.ar101 T.ze101 T.sz103 T.by103 T.ag103 T.ze103 T.fl103_0 T.fl103_1 T.fl103_2 T.fl103_3 T.bu103 T.sl107 T.sl112 T.ik118 T.sl122 T.sz127 T.ag127 T.ze127 T.fl127_0 T.fl127_1 T.bu127 T.sz131 T.by131 T.ag131 T.ik131 T.us131 T.ze131 -- NOREP -- EXTRA=EngZQ
section
set_option maxRecDepth 20000
theorem val_split (D : List Int) (j : Nat) (h : j ≤ D.length) : valN D = valN (D.take j) + 4294967296 ^ j * valN (D.drop j) := by
  conv => lhs; rw [← List.take_append_drop j D]
  rw [val_app, List.length_take, Nat.min_eq_left h]
theorem okD_drop {D : List Int} (h : okD D) (i : Nat) : okD (D.drop i) := fun x hx => h x (List.mem_of_mem_drop hx)
theorem okD_app {X Y : List Int} (h1 : okD X) (h2 : okD Y) : okD (X ++ Y) := fun x hx => (List.mem_append.1 hx).elim (h1 x) (h2 x)
theorem Bpow_mono {i j : Nat} (h : i ≤ j) : (4294967296 : Int) ^ i ≤ 4294967296 ^ j := by
  obtain ⟨d, rfl⟩ := Nat.le.dest h
  rw [Int.pow_add]
  have h1 := pow_pos3 i
  have h2 := pow_pos3 d
  have := Int.mul_le_mul_of_nonneg_left (a := (1 : Int)) (b := 4294967296 ^ d) (c := 4294967296 ^ i) (by omega) (by omega)
  omega
theorem dig_hi {n : Int} (h : 0 ≤ n) : n < 4294967296 ^ (dig n).length := by
  have := val_lt (dig_ok n)
  rwa [dig_val h] at this
theorem dig_lo : ∀ (f : Nat) (n : Int), n.toNat ≤ f → 0 < n → ∃ k, (dig n).length = k + 1 ∧ (4294967296 : Int) ^ k ≤ n ∧ 1 ≤ (dig n).getD k 0 ∧ (dig n).getD k 0 = n / 4294967296 ^ k
  | 0, n, hf, h => by omega
  | f + 1, n, hf, h => by
    rw [dig_s h]
    by_cases hq : 0 < n / 4294967296
    · obtain ⟨k, h1, h2, h3, h4⟩ := dig_lo f (n / 4294967296) (by omega) hq
      refine ⟨k + 1, by simp [h1], ?_, by simpa using h3, ?_⟩
      · rw [pow_s]; omega
      · have : ((n % 4294967296) :: dig (n / 4294967296)).getD (k + 1) 0 = (dig (n / 4294967296)).getD k 0 := by simp [List.getD]
        rw [this, h4, pow_s, Int.ediv_ediv_of_nonneg (by decide)]
    · refine ⟨0, ?_, ?_, ?_, ?_⟩
      · rw [dig_0 (by omega)]; rfl
      · simp; omega
      · simp; omega
      · simp; omega
theorem dig_len_le {n : Int} {k : Nat} (h0 : 0 ≤ n) (h : n < 4294967296 ^ k) : (dig n).length ≤ k := by
  by_cases hn : 0 < n
  · obtain ⟨q, h1, h2, _⟩ := dig_lo n.toNat n (Nat.le_refl _) hn
    rw [h1]
    apply Classical.byContradiction
    intro hc
    have := Bpow_mono (show k ≤ q by omega)
    omega
  · rw [dig_0 (by omega)]; simp

def DvS (A : List Int) (b : Int) (i : Nat) (O : List Int) (r : Int) : Prop := O.length = A.length ∧ okD O ∧ (0 ≤ r ∧ r < b) ∧ valN A = valN (A.take i) + 4294967296 ^ i * r + b * valN O ∧ ∀ k, k < i → O.getD k 0 = 0
theorem dvs_step {A O : List Int} {b r : Int} {j : Nat} (hA : okD A) (hb : 0 < b ∧ b < 4294967296) (h : DvS A b (j + 1) O r) (hj : j < A.length) :
    (0 ≤ (r * 4294967296 + A.getD j 0) / b ∧ (r * 4294967296 + A.getD j 0) / b < 4294967296) ∧ DvS A b j (O.set j ((r * 4294967296 + A.getD j 0) / b)) ((r * 4294967296 + A.getD j 0) % b) := by
  obtain ⟨h1, h2, h3, h4, h5⟩ := h
  have da := okD_get hA j
  have q0 : 0 ≤ (r * 4294967296 + A.getD j 0) / b := Int.ediv_nonneg (by omega) (by omega)
  have q1 : (r * 4294967296 + A.getD j 0) / b < 4294967296 := by
    refine Int.ediv_lt_of_lt_mul hb.1 ?_
    have : (r + 1) * 4294967296 ≤ b * 4294967296 := Int.mul_le_mul_of_nonneg_right (by omega) (by decide)
    omega
  refine ⟨⟨q0, q1⟩, by rw [List.length_set, h1], okD_set h2 _ ⟨q0, q1⟩, ⟨Int.emod_nonneg _ (by omega), Int.emod_lt_of_pos _ hb.1⟩, ?_, fun k hk => ?_⟩
  · rw [h4, val_take, val_set _ (by omega), h5 j (by omega), pow_s]
    have hd := Int.emod_add_mul_ediv (r * 4294967296 + A.getD j 0) b
    generalize (r * 4294967296 + A.getD j 0) / b = q at *
    generalize hm : (r * 4294967296 + A.getD j 0) % b = m at *
    generalize (4294967296 : Int) ^ j = P
    have e1 : 4294967296 * P * r + P * A.getD j 0 = P * (r * 4294967296 + A.getD j 0) := by rw [Int.mul_add, Int.mul_comm 4294967296 P, Int.mul_assoc, Int.mul_comm r]
    have e2 : b * (valN O + P * (q - 0)) = b * valN O + P * (b * q) := by rw [Int.sub_zero, Int.mul_add, Int.mul_left_comm]
    rw [e2]
    have e3 : P * (r * 4294967296 + A.getD j 0) = P * m + P * (b * q) := by rw [← hd, Int.mul_add]
    omega
  · by_cases hkl : k < O.length
    · rw [getD_setI hkl, if_neg (by omega)]
      exact h5 k (by omega)
    · exact getD_out (by rw [List.length_set]; omega)
theorem div_uni {a b q r : Int} (hb : 0 < b) (h : a = r + b * q) (h0 : 0 ≤ r) (h1 : r < b) : a / b = q ∧ a % b = r := (Int.ediv_emod_unique hb).2 ⟨h.symm, h0, h1⟩
theorem dvs_end {A O : List Int} {b r : Int} (hb : 0 < b) (h : DvS A b 0 O r) : valN O = valN A / b ∧ r = valN A % b := by
  obtain ⟨h1, h2, h3, h4, h5⟩ := h
  simp only [List.take_zero, valN, Int.pow_zero, Int.one_mul, Int.zero_add] at h4
  have := div_uni hb h4 h3.1 h3.2
  exact ⟨this.1.symm, this.2.symm⟩

theorem win {U : List Int} {V : Int} {j n : Nat} (hU : okD U) (hV : V ≤ 4294967296 ^ n) (hl : j + n + 1 ≤ U.length) (h : valN (U.drop (j + 1)) < V) :
    valN ((U.drop j).take (n + 1)) = valN (U.drop j) ∧ valN (U.drop j) < 4294967296 * V ∧ valN (U.drop (j + n + 1)) = 0 := by
  have da := okD_get hU j
  have e1 : valN (U.drop j) = U.getD j 0 + 4294967296 * valN (U.drop (j + 1)) := by rw [drop_get U j (by omega)]; rfl
  have e2 := val_split (U.drop j) (n + 1) (by rw [List.length_drop]; omega)
  rw [List.drop_drop, show j + (n + 1) = j + n + 1 by omega] at e2
  have b1 : valN (U.drop j) < 4294967296 * V := by omega
  have b2 := val_nn (okD_take (okD_drop hU j) (n + 1))
  have b3 := val_nn (okD_drop hU (j + n + 1))
  have hp := pow_pos3 n
  rw [pow_s] at e2
  have z : valN (U.drop (j + n + 1)) = 0 := by
    apply Classical.byContradiction
    intro hc
    have : 4294967296 * 4294967296 ^ n * 1 ≤ 4294967296 * 4294967296 ^ n * valN (U.drop (j + n + 1)) := Int.mul_le_mul_of_nonneg_left (by omega) (by omega)
    have : 4294967296 * V ≤ 4294967296 * 4294967296 ^ n := Int.mul_le_mul_of_nonneg_left hV (by decide)
    omega
  rw [z, Int.mul_zero, Int.add_zero] at e2
  exact ⟨e2.symm, b1, z⟩
theorem win_top {U : List Int} {j n : Nat} (hU : okD U) (hn : 1 ≤ n) (hl : j + n + 1 ≤ U.length) (hz : valN (U.drop (j + n + 1)) = 0) :
    valN (U.drop j) / 4294967296 ^ (n - 1) = U.getD (j + n) 0 * 4294967296 + U.getD (j + (n - 1)) 0 := by
  have e2 := val_split (U.drop j) (n - 1) (by rw [List.length_drop]; omega)
  rw [List.drop_drop, drop_get U (j + (n - 1)) (by omega), show j + (n - 1) + 1 = j + n by omega, drop_get U (j + n) (by omega)] at e2
  simp only [valN, hz] at e2
  have b1 := val_nn (okD_take (okD_drop hU j) (n - 1))
  have b2 := val_lt (okD_take (okD_drop hU j) (n - 1))
  rw [List.length_take, List.length_drop, Nat.min_eq_left (by omega)] at b2
  have hp := pow_pos3 (n - 1)
  rw [e2, Int.add_mul_ediv_left _ _ (by omega), Int.ediv_eq_zero_of_lt b1 b2]
  omega
theorem guess {w V v1 : Int} {n : Nat} (hn : 1 ≤ n) (hV : 0 < V) (hw0 : 0 ≤ w) (hw : w < 4294967296 * V) (hv1 : 0 < v1) (hlo : 4294967296 ^ (n - 1) * v1 ≤ V) :
    0 ≤ w / V ∧ w / V ≤ 4294967295 ∧ w / V ≤ w / 4294967296 ^ (n - 1) / v1 := by
  have q0 : 0 ≤ w / V := Int.ediv_nonneg hw0 (by omega)
  have q1 : w / V < 4294967296 := Int.ediv_lt_of_lt_mul hV hw
  refine ⟨q0, by omega, ?_⟩
  have hp := pow_pos3 (n - 1)
  rw [Int.ediv_ediv_of_nonneg (by omega)]
  apply Int.le_ediv_of_mul_le (Int.mul_pos (by omega) hv1)
  have h1 := Int.mul_le_mul_of_nonneg_left hlo q0
  have h2 := Int.ediv_mul_le w (show V ≠ 0 by omega)
  omega
def DvO (a V : Int) (n : Nat) (U O : List Int) (k : Nat) : Prop := U.length = O.length + n ∧ k ≤ O.length ∧ okD U ∧ okD O ∧ a = valN O * V + valN U ∧ valN (U.drop k) < V ∧ ∀ i, i < k → O.getD i 0 = 0
def winS (U : List Int) (j n : Nat) (r : Int) : List Int := U.take j ++ (dig r ++ List.replicate (n + 1 - (dig r).length) 0) ++ U.drop (j + n + 1)
theorem val_pad (D : List Int) (m : Nat) : valN (D ++ List.replicate m 0) = valN D := by rw [val_app, val_rep, Int.mul_zero, Int.add_zero]
theorem dvo_step {a V : Int} {n j : Nat} {U O : List Int} (hn : 1 ≤ n) (hV0 : 0 < V) (hV : V < 4294967296 ^ n) (h : DvO a V n U O (j + 1)) :
    DvO a V n (winS U j n (valN (U.drop j) - V * (valN (U.drop j) / V))) (O.set j (valN (U.drop j) / V)) j := by
  obtain ⟨h1, h2, h3, h4, h5, h6, h7⟩ := h
  have hl : j + n + 1 ≤ U.length := by omega
  obtain ⟨w1, w2, w3⟩ := win h3 (Int.le_of_lt hV) hl h6
  have hw0 := val_nn (okD_drop h3 j)
  have q0 : 0 ≤ valN (U.drop j) / V := Int.ediv_nonneg hw0 (by omega)
  have q1 : valN (U.drop j) / V < 4294967296 := Int.ediv_lt_of_lt_mul hV0 w2
  have hd := Int.emod_add_mul_ediv (valN (U.drop j)) V
  have r0 := Int.emod_nonneg (valN (U.drop j)) (show V ≠ 0 by omega)
  have r1 := Int.emod_lt_of_pos (valN (U.drop j)) hV0
  obtain ⟨r, hr⟩ : ∃ r, r = valN (U.drop j) - V * (valN (U.drop j) / V) := ⟨_, rfl⟩
  have hrr : r = valN (U.drop j) % V := by omega
  rw [← hr]
  have rl := dig_len_le (n := r) (k := n + 1) (by omega) (by rw [pow_s]; have := pow_pos3 n; omega)
  have lw : (dig r ++ List.replicate (n + 1 - (dig r).length) (0 : Int)).length = n + 1 := by simp; omega
  have lt : (U.take j).length = j := by rw [List.length_take]; omega
  have vw : valN (dig r ++ List.replicate (n + 1 - (dig r).length) (0 : Int)) = r := by rw [val_pad, dig_val (by omega)]
  have e1 : (winS U j n r).drop j = (dig r ++ List.replicate (n + 1 - (dig r).length) 0) ++ U.drop (j + n + 1) := by
    unfold winS
    rw [List.append_assoc]
    exact List.drop_left' lt
  have e2 : (winS U j n r).take j = U.take j := by
    unfold winS
    rw [List.append_assoc]
    exact List.take_left' lt
  have e3 : valN ((winS U j n r).drop j) = r := by rw [e1, val_app, vw, w3, Int.mul_zero, Int.add_zero]
  have lW : (winS U j n r).length = U.length := by unfold winS; rw [List.length_append, List.length_append, lt, lw, List.length_drop]; omega
  refine ⟨by rw [lW, List.length_set, h1], by rw [List.length_set]; omega, ?_, okD_set h4 _ ⟨q0, q1⟩, ?_, by rw [e3]; omega, fun i hi => ?_⟩
  · unfold winS
    exact okD_app (okD_app (okD_take h3 _) (okD_app (dig_ok _) (okD_rep _))) (okD_drop h3 _)
  · have s1 := val_split U j (by omega)
    have s2 := val_split (winS U j n r) j (by omega)
    rw [e2, e3] at s2
    rw [s2, val_set _ (by omega), h7 j (by omega), h5, s1, Int.sub_zero, Int.add_mul]
    have : 4294967296 ^ j * valN (U.drop j) = 4294967296 ^ j * (valN (U.drop j) / V) * V + 4294967296 ^ j * r := by
      rw [Int.mul_assoc, ← Int.mul_add, Int.mul_comm _ V, hr]; congr 1; omega
    omega
  · by_cases hkl : i < O.length
    · rw [getD_setI hkl, if_neg (by omega)]
      exact h7 i (by omega)
    · exact getD_out (by rw [List.length_set]; omega)
theorem dvo_end {a b : Int} {s n : Nat} {U O : List Int} (ha : 0 ≤ a) (hb : 0 < b) (hV : b * 2 ^ s < 4294967296 ^ n) (h : DvO (a * 2 ^ s) (b * 2 ^ s) n U O 0) :
    valN O = a / b ∧ valN (U.take n) / 2 ^ s = a % b := by
  obtain ⟨h1, h2, h3, h4, h5, h6, h7⟩ := h
  have hp := pow_pos2 s
  have hV0 : 0 < b * 2 ^ s := Int.mul_pos hb (by omega)
  rw [List.drop_zero] at h6
  have hu0 := val_nn h3
  obtain ⟨d1, d2⟩ := div_uni (a := a * 2 ^ s) (b := b * 2 ^ s) (q := valN O) (r := valN U) hV0 (by rw [h5, Int.mul_comm (valN O)]; omega) hu0 h6
  have s1 := val_split U n (by omega)
  have b1 := val_nn (okD_take h3 n)
  have b3 := val_nn (okD_drop h3 n)
  have hpn := pow_pos3 n
  have z : valN (U.drop n) = 0 := by
    apply Classical.byContradiction
    intro hc
    have : 4294967296 ^ n * 1 ≤ 4294967296 ^ n * valN (U.drop n) := Int.mul_le_mul_of_nonneg_left (by omega) (by omega)
    omega
  rw [z, Int.mul_zero, Int.add_zero] at s1
  rw [Int.mul_ediv_mul_of_pos_left _ _ (by omega)] at d1
  rw [Int.mul_comm a, Int.mul_comm b, Int.mul_emod_mul_of_pos _ _ (by omega)] at d2
  refine ⟨d1.symm, ?_⟩
  rw [← s1, ← d2, Int.mul_ediv_cancel_left _ (by omega)]
theorem dvo_0 {a b : Int} {s la lb : Nat} {U : List Int} (ha0 : 0 ≤ a) (ha : a < 4294967296 ^ la) (hb : 4294967296 ^ (lb - 1) ≤ b) (hlb : 1 ≤ lb) (hle : lb ≤ la) (hU : okD U) (hl : U.length = la + 1) (hv : valN U = a * 2 ^ s) (m : Nat) (hm : m = la + 1 - lb) :
    DvO (a * 2 ^ s) (b * 2 ^ s) lb U (List.replicate m 0) m := by
  subst hm
  have hp := pow_pos2 s
  refine ⟨by rw [List.length_replicate]; omega, by rw [List.length_replicate]; omega, hU, okD_rep _, by rw [val_rep, hv]; omega, ?_, fun i _ => getD_rep _ _⟩
  have s1 := val_split U (la + 1 - lb) (by omega)
  have b1 := val_nn (okD_take hU (la + 1 - lb))
  have e1 : (4294967296 : Int) ^ la = 4294967296 ^ (la + 1 - lb) * 4294967296 ^ (lb - 1) := by rw [← Int.pow_add]; congr 1; omega
  have h1 : a * 2 ^ s < 4294967296 ^ la * 2 ^ s := Int.mul_lt_mul_of_pos_right ha (by omega)
  have h2 : 4294967296 ^ (lb - 1) * 2 ^ s ≤ b * 2 ^ s := Int.mul_le_mul_of_nonneg_right hb (by omega)
  have hpp := pow_pos3 (la + 1 - lb)
  rw [e1, Int.mul_assoc] at h1
  have h3 : 4294967296 ^ (la + 1 - lb) * valN (U.drop (la + 1 - lb)) < 4294967296 ^ (la + 1 - lb) * (4294967296 ^ (lb - 1) * 2 ^ s) := by omega
  have h4 := Int.lt_of_mul_lt_mul_left h3 (by omega)
  omega
theorem lb_hi {n : Int} (h1 : 0 ≤ n) (h2 : n < 256) : n < 2 ^ (lb n).toNat := by
  have key : ∀ k, k < 256 → ((k : Nat) : Int) < 2 ^ (lb ((k : Nat) : Int)).toNat := by decide +kernel
  have := key n.toNat (by omega)
  rwa [Int.toNat_of_nonneg (by omega)] at this
theorem bl_hi {x : Int} (h1 : 1 ≤ x) (h2 : x < 4294967296) : x < 2 ^ (bl x).toNat := by
  unfold bl
  split
  · split
    · have h3 := lb_hi (n := x / 65536 / 256) (by omega) (by omega)
      have h4 := lb_b (n := x / 65536 / 256) (by omega) (by omega)
      rw [show (24 + lb (x / 65536 / 256)).toNat = 24 + (lb (x / 65536 / 256)).toNat by omega, Int.pow_add, show (2 : Int) ^ 24 = 16777216 by decide]
      omega
    · have h3 := lb_hi (n := x / 65536) (by omega) (by omega)
      have h4 := lb_b (n := x / 65536) (by omega) (by omega)
      rw [show (16 + lb (x / 65536)).toNat = 16 + (lb (x / 65536)).toNat by omega, Int.pow_add, show (2 : Int) ^ 16 = 65536 by decide]
      omega
  · split
    · have h3 := lb_hi (n := x / 256) (by omega) (by omega)
      have h4 := lb_b (n := x / 256) (by omega) (by omega)
      rw [show (8 + lb (x / 256)).toNat = 8 + (lb (x / 256)).toNat by omega, Int.pow_add, show (2 : Int) ^ 8 = 256 by decide]
      omega
    · exact lb_hi (n := x) (by omega) (by omega)
theorem norm_b {b x : Int} {k s : Nat} (hb : 0 < b) (hk : (dig b).length = k + 1) (hx : (dig b).getD k 0 = x) (hx1 : 1 ≤ x) (hx2 : x = b / 4294967296 ^ k) (hs : (s : Int) = 32 - bl x) :
    b * 2 ^ s < 4294967296 ^ (k + 1) ∧ (dig (b * 2 ^ s)).length = k + 1 ∧ 4294967296 ^ k ≤ b ∧ 1 ≤ (dig (b * 2 ^ s)).getD k 0 ∧ 4294967296 ^ k * (dig (b * 2 ^ s)).getD k 0 ≤ b * 2 ^ s := by
  have hxb : x < 4294967296 := by rw [← hx]; exact (okD_get (dig_ok b) k).2
  have h1 := bl_hi hx1 hxb
  have h2 := bl_b hx1 hxb
  have hpk := pow_pos3 k
  have hp := pow_pos2 s
  have h3 : b < 4294967296 ^ k * (x + 1) := by
    have := Int.lt_mul_ediv_self_add (x := b) (k := 4294967296 ^ k) (by omega)
    rw [← hx2] at this
    rw [Int.mul_add, Int.mul_one]; omega
  have h4 : 4294967296 ^ k ≤ b := by
    have := Int.ediv_mul_le b (show (4294967296 : Int) ^ k ≠ 0 by omega)
    rw [← hx2] at this
    have h5 : 1 * 4294967296 ^ k ≤ x * 4294967296 ^ k := Int.mul_le_mul_of_nonneg_right hx1 (by omega)
    omega
  have h5 : (x + 1) * 2 ^ s ≤ 2 ^ (bl x).toNat * 2 ^ s := Int.mul_le_mul_of_nonneg_right (by omega) (by omega)
  have e : (2 : Int) ^ (bl x).toNat * 2 ^ s = 4294967296 := by
    rw [← Int.pow_add, show (bl x).toNat + s = 32 by omega]; decide
  rw [e] at h5
  have h6 : b * 2 ^ s < 4294967296 ^ (k + 1) := by
    have a1 : b * 2 ^ s < 4294967296 ^ k * (x + 1) * 2 ^ s := Int.mul_lt_mul_of_pos_right h3 (by omega)
    have a2 : 4294967296 ^ k * ((x + 1) * 2 ^ s) ≤ 4294967296 ^ k * 4294967296 := Int.mul_le_mul_of_nonneg_left h5 (by omega)
    rw [Int.mul_assoc] at a1
    rw [Int.pow_succ]; omega
  have hbs : b ≤ b * 2 ^ s := by
    have := Int.mul_le_mul_of_nonneg_left (show 1 ≤ (2 : Int) ^ s by omega) (show 0 ≤ b by omega)
    omega
  have hl1 := dig_len_le (n := b * 2 ^ s) (k := k + 1) (by omega) h6
  have hl2 := dig_len_mono (n := b * 2 ^ s) (m := b) (by omega) hbs
  have hl : (dig (b * 2 ^ s)).length = k + 1 := by omega
  obtain ⟨q, g1, g2, g3, g4⟩ := dig_lo (b * 2 ^ s).toNat (b * 2 ^ s) (Nat.le_refl _) (by omega)
  have : q = k := by omega
  subst this
  refine ⟨h6, hl, h4, g3, ?_⟩
  rw [g4, Int.mul_comm]
  exact Int.ediv_mul_le _ (by omega)
end

section
set_option maxRecDepth 20000
attribute [local go_sem] clU32 clNat clBigT clBigC
theorem clDm (x y : Int) : Cl (.t [NatA (dig x), NatA (dig y)]) := by simp [Cl_t, (clNat _).2 trivial]
theorem u64or {a b : Int} (ha : 0 ≤ a ∧ a < 4294967296) (hb : 0 ≤ b ∧ b < 4294967296) :
    ((BitVec.ofInt IntKind.u64.bits (a * 4294967296) ||| BitVec.ofInt IntKind.u64.bits b).toNat : Int) % 18446744073709551616 = a * 4294967296 + b := by
  obtain ⟨n, rfl⟩ := Int.eq_ofNat_of_zero_le ha.1
  obtain ⟨c, rfl⟩ := Int.eq_ofNat_of_zero_le hb.1
  have hc : c < 2 ^ 32 := by omega
  have k1 : ((n : Nat) : Int) * 4294967296 = ((2 ^ 32 * n : Nat) : Int) := by omega
  have kb : ((2 ^ IntKind.u64.bits : Nat) : Int) = 18446744073709551616 := by decide
  have n1 : ((c : Nat) : Int) % 18446744073709551616 = (c : Nat) := Int.emod_eq_of_lt (by omega) (by omega)
  have n2 : ((2 ^ 32 * n : Nat) : Int) % 18446744073709551616 = (2 ^ 32 * n : Nat) := Int.emod_eq_of_lt (by omega) (by omega)
  rw [k1, BitVec.toNat_or, BitVec.toNat_ofInt, BitVec.toNat_ofInt, kb, n1, n2, Int.toNat_natCast, Int.toNat_natCast, ← Nat.two_pow_add_eq_or_of_lt hc]
  omega
theorem oneU (D : List Int) : ∀ c ∈ D.map U32C, ∀ q ∈ c, oneA q = true := by
  intro c hc q hq
  obtain ⟨x, _, rfl⟩ := List.mem_map.1 hc
  simp at hq
  subst hq
  rfl
theorem wu64m (x : Int) : IntKind.u64.wrap x = x % 18446744073709551616 := by
  simp [IntKind.wrap, IntKind.signed, IntKind.bits]
theorem div89s (a b : Int) (ha : 0 ≤ a) (hb : 0 < b) (hal : (dig a).length < 1073741824) (hbl : (dig b).length < 1073741824) (h : a < b) : PFun Try.prog 89 [NatA (dig a), NatA (dig b)] (.t [NatA (dig (a / b)), NatA (dig (a % b))]) := by
  have hc := cmp84 a b ha (by omega) hal hbl
  have c1 := (cmp_lt ha (show 0 ≤ b by omega)).1.2 h
  rw [Int.ediv_eq_zero_of_lt ha h, Int.emod_eq_of_lt ha h, dig_0 (Int.le_refl 0)]
  refine PFun.res ?_ (Sub.t2 (Sub.nil 1) _)
  refine PFun.intro 400 mixed Try.func89 (by kernel_rfl) rfl (by simp [Cl_t, Cl_v, (clNat _).2 trivial]) (Nat.le_of_ble_eq_true rfl) ?_; rw [Try.ntmps89, Try.results89]
  simp -dsimp -implicitDefEqProofs only [go_sem, seval]
  refine AtFn.pure0 hc ?_
  simp -dsimp -implicitDefEqProofs only [go_sem, seval, c1]
set_option maxHeartbeats 4000000 in
theorem div89o (a b : Int) (ha : 0 ≤ a) (hb : 0 < b) (hal : (dig a).length < 1073741824) (hbl : (dig b).length = 1) (h : ¬ a < b) : PFun Try.prog 89 [NatA (dig a), NatA (dig b)] (.t [NatA (dig (a / b)), NatA (dig (a % b))]) := by
  have hc := cmp84 a b ha (by omega) hal (by omega)
  have c1 : ¬ cmpW a b < 0 := fun q => h ((cmp_lt ha (show 0 ≤ b by omega)).1.1 q)
  obtain ⟨b0, hb0⟩ : ∃ b0, dig b = [b0] := by
    match hd : dig b, hbl with
    | [x], _ => exact ⟨x, rfl⟩
  have vb := dig_val (show 0 ≤ b by omega)
  have hbo := dig_ok b
  rw [hb0] at vb hbo
  have eb : b0 = b := by simp [valN] at vb; exact vb
  subst eb
  have hb2 := hbo b0 List.mem_cons_self
  rw [hb0] at hc ⊢
  obtain ⟨A, hA⟩ : ∃ A, A = dig a := ⟨_, rfl⟩
  have va := dig_val ha
  have hAo := dig_ok a
  rw [← hA] at hc hal va hAo ⊢
  have hn0 : ((A.length : Nat) : Int) ≤ 274877906944 := by omega
  have w0 : wr (((A.length : Nat) : Int) - 1) = ((A.length : Nat) : Int) - 1 := by rw [wr_in] <;> omega
  refine PFun.intro 400 mixed Try.func89 (by kernel_rfl) rfl (clDm _ _) (Nat.le_of_ble_eq_true rfl) ?_; rw [Try.ntmps89, Try.results89]
  simp -dsimp -implicitDefEqProofs only [go_sem, seval]
  refine AtFn.pure0 hc ?_
  simp -dsimp -implicitDefEqProofs only [go_sem, seval, c1, List.length_map, Int.natCast_nonneg, Int.le_refl, hn0, Int.toNat_natCast, w0]
  refine ⟨{p : Nat × List Int × Int // p.1 ≤ A.length ∧ DvS A b0 p.1 p.2.1 p.2.2}, fun p => ⟨153, tl [(0, NatA A), (1, NatA [b0]), (6, .sl 0 0 A.length), (7, .v (.int .u64 p.1.2.2)), (8, I ((p.1.1 : Int) - 1))], [(0, ⟨1, p.1.2.1.map U32C⟩)], 1, .nil⟩, fun p => p.1.1,
    ⟨⟨(A.length, List.replicate A.length 0, 0), by show A.length ≤ A.length; omega, by simp, okD_rep _, ⟨Int.le_refl _, hb⟩, by rw [val_rep, List.take_of_length_le (Nat.le_refl _)]; simp, fun k _ => getD_rep _ _⟩, Le.tl (Ls := []) (y := none) [] (by simp -dsimp -implicitDefEqProofs only [go_sem, seval]) ?_ (by simp) (by simp [sg]) trivial⟩, fun p => ?_⟩
  · simp -dsimp -implicitDefEqProofs only [go_sem, seval]
    exact renL_cl2 (by rw [List.map_replicate]) ((clU32 _).2 trivial)
  obtain ⟨⟨i, O, r⟩, hi, hD⟩ := p
  simp only at hi hD
  simp -dsimp -implicitDefEqProofs only [go_sem, seval]
  refine ⟨fun h9 => ?_, fun h9 => ?_⟩
  · obtain ⟨j, rfl⟩ : ∃ j, i = j + 1 := ⟨i - 1, by omega⟩
    have hjl : j < A.length := by omega
    have e1 : ((j + 1 : Nat) : Int) - 1 = ((j : Nat) : Int) := by omega
    have e2 : wr (((j : Nat) : Int) - 1) = ((j : Nat) : Int) - 1 := by rw [wr_in] <;> omega
    have gA := getU (D := A) (i := j) hjl
    have gO := getU (D := O) (i := j) (by rw [hD.1]; omega)
    have da := okD_get hAo j
    obtain ⟨⟨q0, q1⟩, hst⟩ := dvs_step hAo ⟨hb, hb2.2⟩ hD hjl
    have hr := hD.2.2.1
    have x1 : IntKind.u64.wrap (r * 2 ^ min 32 64) = r * 4294967296 := by rw [show ((2 : Int) ^ min 32 64) = 4294967296 by decide]; exact wu (by omega) (by omega)
    have x2 : IntKind.u64.wrap (A.getD j 0) = A.getD j 0 := wu (by omega) (by omega)
    have hor := u64or (a := r) (b := A.getD j 0) ⟨hr.1, by omega⟩ da
    have hX : ∃ X, X = r * 4294967296 + A.getD j 0 := ⟨_, rfl⟩
    obtain ⟨X, hX⟩ := hX
    rw [← hX] at q0 q1 hst hor
    have X0 : 0 ≤ X ∧ X ≤ 18446744073709551615 := by omega
    have x3 : IntKind.u64.wrap ((BitVec.ofInt IntKind.u64.bits (r * 4294967296) ||| BitVec.ofInt IntKind.u64.bits (A.getD j 0)).toNat : Int) = X := by rw [wu64m]; exact hor
    have x4 : IntKind.u64.wrap b0 = b0 := wu (by omega) (by omega)
    have x5 : X.tdiv b0 = X / b0 := Int.tdiv_eq_ediv_of_nonneg X0.1
    have x6 : IntKind.u64.wrap (X / b0) = X / b0 := wu (by omega) (by omega)
    have x7 : IntKind.u32.wrap (X / b0) = X / b0 := wu32 (by omega) (by omega)
    have x8 : X.tmod b0 = X % b0 := Int.tmod_eq_emod_of_nonneg X0.1
    have nb : ¬ b0 = 0 := by omega
    have jA : ((j : Nat) : Int) < ((A.length : Nat) : Int) := by omega
    simp -dsimp -implicitDefEqProofs only [go_sem, seval, e1, e2, List.length_map, Int.natCast_nonneg, Int.toNat_natCast, gA, x1, x2, x3, x4, x5, x6, x7, x8, nb, jA, Nat.zero_add, gO, setU]
    refine ⟨⟨(j, _, _), by show j ≤ A.length; omega, hst⟩, by show j < j + 1; omega, Le.tl (Ls := []) (y := none) [] (by simp -dsimp -implicitDefEqProofs only [go_sem, seval, e2]) ?_ (by simp) (by simp [sg]) trivial⟩
    simp -dsimp -implicitDefEqProofs only [go_sem, seval]
    exact renL_cl rfl ((clU32 _).2 trivial)
  · have hi0 : i = 0 := by omega
    subst hi0
    obtain ⟨v1, v2⟩ := dvs_end hb hD
    rw [va] at v1 v2
    have hr := hD.2.2.1
    have hO1 := hD.1
    have ht := nat90 O (by rw [hD.1]; omega) hD.2.1
    rw [v1] at ht
    have ho := of91 r hr.1 (by omega)
    refine AtFn.pure ht ?_
    simp -dsimp -implicitDefEqProofs only [go_sem, seval, List.length_map, takeU, Nat.le_refl, Nat.zero_add, hO1]
    refine AtFn.pure0 ho ?_
    simp -dsimp -implicitDefEqProofs only [go_sem, seval, v2]
theorem lenU {a : Int} {s : Nat} (ha : 0 ≤ a) (hs : s < 32) : (dig (a * 2 ^ s)).length ≤ (dig a).length + 1 := by
  have hp := pow_pos2 s
  have hps : (2 : Int) ^ s ≤ 4294967296 := Int.le_trans (pow_mono2 (show s ≤ 32 by omega)) (by decide)
  have h1 := dig_hi ha
  refine dig_len_le (Int.mul_nonneg ha (by omega)) ?_
  have a1 : a * 2 ^ s < 4294967296 ^ (dig a).length * 2 ^ s := Int.mul_lt_mul_of_pos_right h1 (by omega)
  have hq : (0 : Int) < 4294967296 ^ (dig a).length := pow_pos3 _
  have a2 : (4294967296 : Int) ^ (dig a).length * 2 ^ s ≤ 4294967296 ^ (dig a).length * 4294967296 := Int.mul_le_mul_of_nonneg_left hps (Int.le_of_lt hq)
  rw [Int.pow_succ]; omega
theorem win_take (U : List Int) {j n : Nat} (h : j + n ≤ U.length) : takeA j n (U.map U32C) = ((U.drop j).take n).map U32C := by
  rw [takeA_eq, ← List.map_drop, ← List.map_take]
theorem sz131 : szT Try.prog 131 = 1 := by kernel_rfl
theorem cpy_eq {U R : List Int} {j n : Nat} (h1 : j + n ≤ U.length) (h2 : R.length ≤ n) :
    (U.take j ++ List.replicate n 0 ++ U.drop (j + n)).take j ++ R.take n ++ (U.take j ++ List.replicate n 0 ++ U.drop (j + n)).drop (j + min R.length n) = U.take j ++ (R ++ List.replicate (n - R.length) 0) ++ U.drop (j + n) := by
  have lt : (U.take j).length = j := by rw [List.length_take]; omega
  have e1 : (U.take j ++ List.replicate n 0 ++ U.drop (j + n)).take j = U.take j := by rw [List.append_assoc]; exact List.take_left' lt
  have e2 : (U.take j ++ List.replicate n 0 ++ U.drop (j + n)).drop (j + R.length) = List.replicate (n - R.length) 0 ++ U.drop (j + n) := by
    rw [← List.drop_drop, List.append_assoc, List.drop_left' lt, List.drop_append_of_le_length (by rw [List.length_replicate]; exact h2), List.drop_replicate]
  rw [e1, Nat.min_eq_left h2, e2, List.take_of_length_le h2]
  simp only [List.append_assoc]
set_option maxHeartbeats 4000000 in
theorem div89g (a b : Int) (ha : 0 ≤ a) (hb : 0 < b) (hal0 : (dig a).length < 1073741823) (hbl : (dig b).length ≠ 1) (h : ¬ a < b) : PFun Try.prog 89 [NatA (dig a), NatA (dig b)] (.t [NatA (dig (a / b)), NatA (dig (a % b))]) := by
  have hal : (dig a).length < 1073741824 := by omega
  obtain ⟨k, hk1, hk2, hk3, hk4⟩ := dig_lo b.toNat b (Nat.le_refl _) hb
  have hlm := dig_len_mono (n := a) (m := b) (by omega) (by omega)
  have hc := cmp84 a b ha (by omega) hal (by omega)
  have c1 : ¬ cmpW a b < 0 := fun q => h ((cmp_lt ha (show 0 ≤ b by omega)).1.1 q)
  obtain ⟨x, hx⟩ : ∃ x, x = (dig b).getD k 0 := ⟨_, rfl⟩
  have hxb : x < 4294967296 := by rw [hx]; exact (okD_get (dig_ok b) k).2
  rw [← hx] at hk3 hk4
  have hz := zeros92 x hk3 hxb
  have hbb := bl_b hk3 hxb
  obtain ⟨s, hs⟩ : ∃ s : Nat, (s : Int) = 32 - bl x := ⟨(32 - bl x).toNat, by omega⟩
  rw [← hs] at hz
  obtain ⟨n1, n2, n3, n4, n5⟩ := norm_b hb hk1 hx.symm hk3 hk4 hs
  have la := left94 (dig a) s (by omega) (dig_ok a) hal
  have lb := left94 (dig b) s (by omega) (dig_ok b) (by omega)
  rw [dig_val ha] at la
  rw [dig_val (show 0 ≤ b by omega)] at lb
  have gx : ((dig b).map U32C)[k]? = some (U32C x) := by rw [getU (by omega), hx]
  have hk1' : ¬ (((k + 1 : Nat) : Int) = 1) := by omega
  have w1 : wr (((k + 1 : Nat) : Int) - 1) = ((k : Nat) : Int) := by rw [wr_in] <;> omega
  have xs : IntKind.u64.wrap ((s : Nat) : Int) = ((s : Nat) : Int) := wu (by omega) (by omega)
  have kk : ((k : Nat) : Int) < ((k + 1 : Nat) : Int) := by omega
  have hp := pow_pos2 s
  have has0 : 0 < a * 2 ^ s := Int.mul_pos (by omega) (by omega)
  have hda : dig (a * 2 ^ s) ≠ [] := by rw [ne_eq, dig_nil (by omega)]; omega
  have hlU : (dig (a * 2 ^ s)).length ≤ (dig a).length + 1 := lenU ha (by omega)
  have hlU2 : (dig (a * 2 ^ s)).length ≤ 274877906944 := by omega
  refine PFun.introM 400 mixed Try.func89 (by kernel_rfl) rfl (clDm _ _) (Nat.le_of_ble_eq_true rfl) ?_; rw [Try.ntmps89, Try.results89]
  simp -dsimp -implicitDefEqProofs only [go_sem, seval]
  refine AtFn.pure0 hc ?_
  simp -dsimp -implicitDefEqProofs only [go_sem, seval, c1, List.length_map, Int.natCast_nonneg, Int.le_refl, Int.toNat_natCast, hk1, hk1', w1, gx, kk]
  refine AtFn.pure0 hz ?_
  simp -dsimp -implicitDefEqProofs only [go_sem, seval, xs]
  refine AtFn.pure0 la ?_
  simp -dsimp -implicitDefEqProofs only [go_sem, seval]
  refine AtFn.inl 400 [2] mixed Try.func93 (by kernel_rfl) rfl (by rw [Try.results93]; rfl) (Nat.le_of_ble_eq_true rfl) ?_; rw [Try.ntmps93]
  simp -dsimp -implicitDefEqProofs only [go_sem, seval]
  refine AtOp.isnil (d := 131) rfl (by kernel_rfl) (by simp -dsimp -implicitDefEqProofs only [go_sem, seval]; rfl) fun bb hbb9 => ?_
  have hbf : bb = false := hbb9 (by simp only [ne_eq, List.map_eq_nil_iff]; exact hda)
  subst hbf
  simp -dsimp -implicitDefEqProofs only [go_sem, seval, List.length_map, hlU]
  refine ⟨by omega, oneU _, ?_⟩
  refine AtFn.pure0 lb ?_
  simp -dsimp -implicitDefEqProofs only [go_sem, seval, List.length_map, n2]
  refine ⟨{U : List Int // okD U ∧ valN U = a * 2 ^ s ∧ U.length ≤ (dig a).length + 1}, fun U => ⟨153, tl [(0, NatA (dig a)), (9, .v (.int .u64 s)), (10, .sl 0 0 U.1.length), (11, NatA (dig (b * 2 ^ s))), (12, I ((k + 1 : Nat) : Int))], [(0, ⟨1, U.1.map U32C⟩)], 1, ⟨[], some (.mp none)⟩⟩, fun U => (dig a).length + 1 - U.1.length,
    ⟨⟨dig (a * 2 ^ s), dig_ok _, dig_val (by omega), hlU⟩, Le.tl (Ls := []) [(0, 1)] (by simp -dsimp -implicitDefEqProofs only [go_sem, seval]) ?_ (by simp) (by simp [sg]) trivial⟩, fun U => ?_⟩
  · simp -dsimp -implicitDefEqProofs only [go_sem, seval]
    exact renL_cl rfl ((clU32 _).2 trivial)
  obtain ⟨U, hU1, hU2, hU3⟩ := U
  simp -dsimp -implicitDefEqProofs only [go_sem, seval, List.length_map]
  refine ⟨fun h9 => ?_, fun h9 => ?_⟩
  · have hl : U.length ≤ (dig a).length := by omega
    have tU := takeU U U.length (Nat.le_refl _)
    have nU : U.length ≤ 274877906943 := by omega
    simp -dsimp -implicitDefEqProofs only [go_sem, seval, tU, List.length_map, Nat.zero_add, Nat.le_refl, List.length_append, List.length_cons, List.length_nil, nU]
    have hU' : okD (U ++ [0]) := okD_app hU1 (fun d hd => by rcases List.mem_cons.1 hd with rfl | hd; exact ⟨Int.le_refl _, by decide⟩; cases hd)
    refine ⟨⟨U ++ [0], hU', by rw [val_snoc, Int.mul_zero, Int.add_zero, hU2], by rw [List.length_append]; simp; omega⟩, by show (dig a).length + 1 - (U ++ [0]).length < _; rw [List.length_append]; simp; omega, Le.tl (Ls := []) [(0, 2)] (by simp -dsimp -implicitDefEqProofs only [go_sem, seval, List.length_append]) ?_ (by simp) (by simp [sg]) trivial⟩
    simp -dsimp -implicitDefEqProofs only [go_sem, seval]
    exact renL_cl2 (by rw [List.map_append]; rfl) ((clU32 _).2 trivial)
  have hUl : U.length = (dig a).length + 1 := by omega
  obtain ⟨m, hm⟩ : ∃ m, m = (dig a).length + 1 - (k + 1) := ⟨_, rfl⟩
  have w2 : wr (((U.length : Nat) : Int) - ((k + 1 : Nat) : Int)) = ((m : Nat) : Int) := by rw [wr_in] <;> omega
  have w3 : wr (((m : Nat) : Int) - 1) = ((m : Nat) : Int) - 1 := by rw [wr_in] <;> omega
  have hml : ((m : Nat) : Int) ≤ 274877906944 := by omega
  have hV0 : 0 < b * 2 ^ s := Int.mul_pos hb (by omega)
  simp -dsimp -implicitDefEqProofs only [go_sem, seval, w2, w3, Int.natCast_nonneg, Int.le_refl, hml, Int.toNat_natCast]
  have hD0 := dvo_0 (s := s) (U := U) ha (dig_hi ha) (lb := k + 1) (by show (4294967296 : Int) ^ k ≤ b; exact hk2) (by omega) (by omega) hU1 hUl hU2 m hm
  refine ⟨{p : Nat × List Int × List Int // p.2.2.length = m ∧ DvO (a * 2 ^ s) (b * 2 ^ s) (k + 1) p.2.1 p.2.2 p.1}, fun p => ⟨153, tl [(9, .v (.int .u64 s)), (10, .sl 0 0 (m + (k + 1))), (11, NatA (dig (b * 2 ^ s))), (12, I ((k + 1 : Nat) : Int)), (13, .sl 1 0 m), (14, I ((p.1.1 : Int) - 1))], [(0, ⟨1, p.1.2.1.map U32C⟩), (1, ⟨1, p.1.2.2.map U32C⟩)], 2, ⟨[], some (.mp none)⟩⟩, fun p => p.1.1,
    ⟨⟨(m, U, List.replicate m 0), by simp, hD0⟩, Le.tl (Ls := []) [] (by simp -dsimp -implicitDefEqProofs only [go_sem, seval, hUl, show m + (k + 1) = (dig a).length + 1 by omega]) ?_ (by simp) (by simp [sg]) trivial⟩, fun p => ?_⟩
  · simp -dsimp -implicitDefEqProofs only [go_sem, seval]
    refine ⟨renL_cl rfl ((clU32 _).2 trivial), renL_cl2 (by rw [List.map_replicate]) ((clU32 _).2 trivial)⟩
  obtain ⟨⟨i, U, O⟩, hO, hD⟩ := p
  simp only at hO hD
  simp -dsimp -implicitDefEqProofs only [go_sem, seval]
  refine ⟨fun h10 => ?_, fun h10 => ?_⟩
  · obtain ⟨j, rfl⟩ : ∃ j, i = j + 1 := ⟨i - 1, by omega⟩
    have e1 : ((j + 1 : Nat) : Int) - 1 = ((j : Nat) : Int) := by omega
    have hjm : j + 1 ≤ m := by have := hD.2.1; omega
    have hUm : U.length = m + (k + 1) := by rw [hD.1, hO]
    have e2 : wr (((j : Nat) : Int) + ((k + 1 : Nat) : Int)) = ((j + (k + 1) : Nat) : Int) := by rw [wr_in] <;> omega
    have e3 : wr (((j + (k + 1) : Nat) : Int) - 1) = ((j + k : Nat) : Int) := by rw [wr_in] <;> omega
    have g1 := getU (D := U) (i := j + (k + 1)) (by omega)
    have g2 := getU (D := U) (i := j + k) (by omega)
    simp -dsimp -implicitDefEqProofs only [go_sem, seval, e1]
    refine AtCode.draw 18 [([], []), ([], []), ([], []), ([1, 2], []), ([0, 1, 2, 3], []), ([0, 1, 2, 3, 4], []), ([0, 1, 2, 3, 4, 5], []), ([0, 1, 2, 3, 4, 5, 6], []), ([], []), ([], []), ([], []), ([9, 10], []), ([9, 10, 11], []), ([8, 9, 10, 11, 12], []), ([8, 9, 10, 11, 12, 13], []), ([8, 9, 10, 11, 12, 13, 14], []), ([0, 1, 2, 3, 4, 5, 6, 7, 8, 9, 10, 11, 12, 13, 14, 15], []), ([0, 1, 2, 3, 4, 5, 6, 7, 8, 9, 10, 11, 12, 13, 14, 15, 16], [])] (by kernel_rfl) ?_
    have cb1 : ((j + (k + 1) : Nat) : Int) < ((m + (k + 1) : Nat) : Int) := by omega
    have cb2 : ((j + k : Nat) : Int) < ((m + (k + 1) : Nat) : Int) := by omega
    have d1 := okD_get hD.2.2.1 (j + (k + 1))
    have d2 := okD_get hD.2.2.1 (j + k)
    have x1 : IntKind.u64.wrap (U.getD (j + (k + 1)) 0) = U.getD (j + (k + 1)) 0 := wu (by omega) (by omega)
    have x2 : IntKind.u64.wrap (U.getD (j + (k + 1)) 0 * 2 ^ min 32 64) = U.getD (j + (k + 1)) 0 * 4294967296 := by rw [show ((2 : Int) ^ min 32 64) = 4294967296 by decide]; exact wu (by omega) (by omega)
    have x3 : IntKind.u64.wrap (U.getD (j + k) 0) = U.getD (j + k) 0 := wu (by omega) (by omega)
    have hor := u64or d1 d2
    rw [← wu64m] at hor
    obtain ⟨T, hT⟩ : ∃ T, T = U.getD (j + (k + 1)) 0 * 4294967296 + U.getD (j + k) 0 := ⟨_, rfl⟩
    rw [← hT] at hor
    simp -dsimp -implicitDefEqProofs only [go_sem, seval, e1, e2, e3, g1, g2, List.length_map, cb1, cb2, Int.natCast_nonneg, Int.toNat_natCast, Nat.zero_add, x1, x2, x3, hor]
    obtain ⟨v1, hv1⟩ : ∃ v1, v1 = (dig (b * 2 ^ s)).getD k 0 := ⟨_, rfl⟩
    have gV := getU (D := dig (b * 2 ^ s)) (i := k) (by omega)
    rw [← hv1] at gV
    have y1 : IntKind.u64.wrap v1 = v1 := by rw [hv1]; have := okD_get (dig_ok (b * 2 ^ s)) k; exact wu (by omega) (by omega)
    rw [← hv1] at n4
    have y2 : T.tdiv v1 = T / v1 := Int.tdiv_eq_ediv_of_nonneg (by omega)
    have y4 : 0 ≤ T / v1 := Int.ediv_nonneg (by omega) (by omega)
    have y5 : T / v1 ≤ T := Int.ediv_le_self _ (by omega)
    have y3 : IntKind.u64.wrap (T / v1) = T / v1 := wu y4 (by omega)
    have y6 : ¬ v1 = 0 := by omega
    simp -dsimp -implicitDefEqProofs only [go_sem, seval, List.length_map, n2, w1, kk, gV, y1, y2, y3, y6, Int.natCast_nonneg, Int.toNat_natCast]
    obtain ⟨V, hV⟩ : ∃ V, V = b * 2 ^ s := ⟨_, rfl⟩
    rw [← hV] at hV0 n1 n2 n5 hv1 lb hD ⊢
    have hDst := dvo_step (by omega) hV0 n1 hD
    obtain ⟨f1, f2, f3, f4, f5, f6, f7⟩ := hD
    have jl : j + (k + 1) + 1 ≤ U.length := by omega
    obtain ⟨q1, q2, q3⟩ := win f3 (Int.le_of_lt n1) jl f6
    have hwt := win_top f3 (n := k + 1) (by omega) jl q3
    rw [Nat.add_sub_cancel, ← hT] at hwt
    obtain ⟨w, hw⟩ : ∃ w, w = valN (U.drop j) := ⟨_, rfl⟩
    have hw0 : 0 ≤ w := by rw [hw]; exact val_nn (okD_drop f3 j)
    rw [← hw] at q1 q2 hwt hDst
    have hgs := guess (n := k + 1) (v1 := v1) (by omega) hV0 hw0 q2 (by omega) (by rw [Nat.add_sub_cancel, hv1]; exact n5)
    rw [Nat.add_sub_cancel, hwt] at hgs
    refine ⟨{q : Int // w / V ≤ q ∧ 0 ≤ q ∧ q ≤ 4294967295}, fun q => ⟨153, tl [(9, .v (.int .u64 s)), (10, .sl 0 0 (m + (k + 1))), (11, NatA (dig V)), (12, I ((k + 1 : Nat) : Int)), (13, .sl 1 0 m), (14, I ((j : Nat) : Int)), (16, .v (.int .u64 q.1))], [(0, ⟨1, U.map U32C⟩), (1, ⟨1, O.map U32C⟩)], 2, ⟨[], some (.mp none)⟩⟩, fun q => q.1.toNat,
      ⟨⟨min (T / v1) 4294967295, by omega, by omega, by omega⟩, Le.tl (Ls := []) [] (by simp -dsimp -implicitDefEqProofs only [go_sem, seval]) ?_ (by simp) (by simp [sg]) trivial⟩, fun q => ?_⟩
    · simp -dsimp -implicitDefEqProofs only [go_sem, seval]
      exact ⟨renL_cl rfl ((clU32 _).2 trivial), renL_cl rfl ((clU32 _).2 trivial)⟩
    obtain ⟨q, g1q, g2q, g3q⟩ := q
    have e4 : wr (((j + (k + 1) : Nat) : Int) + 1) = ((j + (k + 1) + 1 : Nat) : Int) := by rw [wr_in] <;> omega
    have cb3 : j + (k + 1) + 1 ≤ m + (k + 1) := by omega
    have cb4 : j ≤ j + (k + 1) + 1 := by omega
    have of := of91 q g2q (by omega)
    have hm82 := mul82 (dig V) (dig q) (dig_ok _) (dig_ok _) (by omega) (by have := dig_len_le (n := q) (k := 1) g2q (by omega); omega)
    rw [dig_val (by omega), dig_val g2q] at hm82
    have hjw : j + (k + 1) + 1 - j = k + 2 := by omega
    simp -dsimp -implicitDefEqProofs only [go_sem, seval, e2, e4, Int.natCast_nonneg, Int.toNat_natCast, cb3, cb4, Nat.zero_add, hjw]
    refine AtFn.inl 400 [6] mixed Try.func95 (by kernel_rfl) rfl (by rw [Try.results95]; rfl) (Nat.le_of_ble_eq_true rfl) ?_; rw [Try.ntmps95]
    simp -dsimp -implicitDefEqProofs only [go_sem, seval]
    refine AtFn.pure0 of ?_
    simp -dsimp -implicitDefEqProofs only [go_sem, seval]
    refine AtFn.pure0 hm82 ?_
    simp -dsimp -implicitDefEqProofs only [go_sem, seval]
    have wk := win_take U (j := j) (n := k + 2) (by omega)
    have wl : ((U.drop j).take (k + 2)).length = k + 2 := by rw [List.length_take, List.length_drop]; omega
    have wo : okD ((U.drop j).take (k + 2)) := okD_take (okD_drop f3 j) _
    have hjU : j + (k + 2) ≤ U.length := by omega
    have ht := nat90 _ (by rw [wl]; omega) wo
    have q1' : valN ((U.drop j).take (k + 2)) = w := q1
    rw [q1'] at ht
    have kl : k + 2 ≤ 274877906944 := by omega
    refine AtFn.inl 400 [2] mixed Try.func93 (by kernel_rfl) rfl (by rw [Try.results93]; rfl) (Nat.le_of_ble_eq_true rfl) ?_; rw [Try.ntmps93]
    simp -dsimp -implicitDefEqProofs only [go_sem, seval]
    refine AtOp.isnilS (d := 131) rfl (by kernel_rfl) (by simp -dsimp -implicitDefEqProofs only [go_sem, seval]; rfl) fun b1 hb1 => ?_
    have hb1 : b1 = false := hb1 (by omega)
    subst hb1
    simp -dsimp -implicitDefEqProofs only [go_sem, seval, wk, List.length_map, wl, hjU, kl, Nat.zero_add]
    refine ⟨oneU _, ?_⟩
    refine AtFn.pure ht ?_
    have tW : takeA 0 (k + 2) (((U.drop j).take (k + 2)).map U32C) = ((U.drop j).take (k + 2)).map U32C := takeU _ _ (by omega)
    simp -dsimp -implicitDefEqProofs only [go_sem, seval, takeU, wl]
    refine ⟨by rw [tW, if_pos (by rw [List.length_map, wl]; omega)], ?_⟩
    have hVq : 0 ≤ V * q := Int.mul_nonneg (by omega) g2q
    have lw1 : (dig w).length < 1073741824 := by
      have := dig_len_le (n := w) (k := k + 2) hw0 (by rw [← q1']; have := val_lt wo; rwa [wl] at this)
      omega
    have lw2 : (dig (V * q)).length < 1073741824 := by
      have h1 : V * q < 4294967296 ^ (k + 2) := by
        have a1 : V * q ≤ V * 4294967295 := Int.mul_le_mul_of_nonneg_left g3q (by omega)
        have a2 : V * 4294967296 ≤ 4294967296 ^ (k + 1) * 4294967296 := Int.mul_le_mul_of_nonneg_right (by omega) (by decide)
        rw [show (4294967296 : Int) ^ (k + 2) = 4294967296 ^ (k + 1) * 4294967296 from Int.pow_succ _ _]
        omega
      have := dig_len_le (n := V * q) (k := k + 2) hVq h1
      omega
    have hcq := cmp84 w (V * q) hw0 hVq lw1 lw2
    have hci := (cmp_lt hw0 hVq).1
    by_cases hlt : w < V * q
    · have hci' := hci.2 hlt
      refine AtFn.pure0 hcq ?_
      simp -dsimp -implicitDefEqProofs only [go_sem, seval, hci']
      have hq1 : w / V ≤ q - 1 := by
        have : w / V < q := Int.ediv_lt_of_lt_mul hV0 (by rw [Int.mul_comm]; exact hlt)
        omega
      have xq : IntKind.u64.wrap (q - 1) = q - 1 := wu (by omega) (by omega)
      simp -dsimp -implicitDefEqProofs only [go_sem, seval, xq]
      refine ⟨⟨q - 1, hq1, by omega, by omega⟩, by show (q - 1).toNat < q.toNat; omega, Le.tl (Ls := []) [] (by simp -dsimp -implicitDefEqProofs only [go_sem, seval]) ?_ (by simp) (by simp [sg]) trivial⟩
      simp -dsimp -implicitDefEqProofs only [go_sem, seval]
      exact ⟨renL_cl rfl ((clU32 _).2 trivial), renL_cl rfl ((clU32 _).2 trivial)⟩
    · have hci' : ¬ cmpW w (V * q) < 0 := fun hh => hlt (hci.1 hh)
      have hqe : q = w / V := by
        have : q ≤ w / V := Int.le_ediv_of_mul_le hV0 (by rw [Int.mul_comm]; omega)
        omega
      have hsu := sub85 (dig w) (dig (V * q)) (dig_ok _) (dig_ok _) (by omega) (dig_len_mono hVq (by omega)) (by rw [dig_val hw0, dig_val hVq]; omega)
      rw [dig_val hw0, dig_val hVq] at hsu
      refine AtFn.pure0 hcq ?_
      simp -dsimp -implicitDefEqProofs only [go_sem, seval, hci']
      refine AtFn.inl 400 [2] mixed Try.func93 (by kernel_rfl) rfl (by rw [Try.results93]; rfl) (Nat.le_of_ble_eq_true rfl) ?_; rw [Try.ntmps93]
      simp -dsimp -implicitDefEqProofs only [go_sem, seval]
      refine AtOp.isnilS (d := 131) rfl (by kernel_rfl) (by simp -dsimp -implicitDefEqProofs only [go_sem, seval]; rfl) fun b1 hb1 => ?_
      have hb1 : b1 = false := hb1 (by omega)
      subst hb1
      simp -dsimp -implicitDefEqProofs only [go_sem, seval, wk, List.length_map, wl, hjU, kl, Nat.zero_add]
      refine ⟨oneU _, ?_⟩
      refine AtFn.pure ht ?_
      simp -dsimp -implicitDefEqProofs only [go_sem, seval, takeU, wl]
      refine ⟨by rw [tW, if_pos (by rw [List.length_map, wl]; omega)], ?_⟩
      refine AtFn.pure0 hsu ?_
      simp -dsimp -implicitDefEqProofs only [go_sem, seval]
      refine AtOp.clear (e := 131) (n := 0) (i := j) (len := k + 2) (b := ⟨1, U.map U32C⟩) (zl := [.int .u32 0]) rfl (by kernel_rfl) (by rw [sz131]; decide) (by kernel_rfl) (by kernel_rfl) (by intro v hv; simp at hv; subst hv; rfl) (by simp -dsimp -implicitDefEqProofs only [go_sem, seval]) (by simp -dsimp -implicitDefEqProofs only [go_sem, seval]) (by kernel_rfl) (by rw [List.length_map]; exact hjU) (by omega) fun h' hh' => ?_
      subst hh'
      have hC : List.take j (U.map U32C) ++ List.replicate (k + 2) [AV.v (Value.int .u32 0)] ++ List.drop (j + (k + 2)) (U.map U32C) = (U.take j ++ List.replicate (k + 2) 0 ++ U.drop (j + (k + 2))).map U32C := by
        simp only [List.map_append, List.map_take, List.map_drop, List.map_replicate, List.map_cons, List.map_nil]
      simp -dsimp -implicitDefEqProofs only [go_sem, seval, hC]
      have lr : (dig (w - V * q)).length ≤ k + 2 := by
        have hlw := val_lt wo
        rw [wl, q1'] at hlw
        exact dig_len_le (by omega) (by omega)
      refine AtOp.copy (e := 131) (n := 0) (i := j) (len := k + 2) (b := ⟨1, (U.take j ++ List.replicate (k + 2) 0 ++ U.drop (j + (k + 2))).map U32C⟩) (l := (dig (w - V * q)).map U32C) rfl (by kernel_rfl) (by rw [sz131]; decide) ?_ rfl (by rw [sz131]) (by simp; omega) ?_ ?_ (oneU _) fun h' hh' => ?_
      · simp -dsimp -implicitDefEqProofs only [go_sem, seval]
      · rw [sz131]
        simp -dsimp -implicitDefEqProofs only [go_sem, seval]
        exact ⟨rfl, rfl⟩
      · simp -dsimp -implicitDefEqProofs only [go_sem, seval]
      subst hh'
      have hB : List.take j ((U.take j ++ List.replicate (k + 2) 0 ++ U.drop (j + (k + 2))).map U32C) ++ List.take (k + 2) ((dig (w - V * q)).map U32C) ++ List.drop (j + min ((dig (w - V * q)).map U32C).length (k + 2)) ((U.take j ++ List.replicate (k + 2) 0 ++ U.drop (j + (k + 2))).map U32C) = (winS U j (k + 1) (w - V * q)).map U32C := by
        have := cpy_eq (U := U) (R := dig (w - V * q)) hjU lr
        rw [List.length_map, ← List.map_take, ← List.map_take, ← List.map_drop, ← List.map_append, ← List.map_append, this]
        rfl
      have xq : IntKind.u32.wrap q = q := wu32 (by omega) (by omega)
      have gO := getU (D := O) (i := j) (by omega)
      have cjm : ((j : Nat) : Int) < ((m : Nat) : Int) := by omega
      have wj : wr (((j : Nat) : Int) - 1) = ((j : Nat) : Int) - 1 := by rw [wr_in] <;> omega
      rw [← hqe] at hDst
      rw [hB]
      simp -dsimp -implicitDefEqProofs only [go_sem, seval, xq, gO, cjm, Int.natCast_nonneg, Int.toNat_natCast, Nat.zero_add, setU, wj]
      refine ⟨⟨(j, _, _), by rw [List.length_set]; exact hO, hDst⟩, by show j < j + 1; omega, Le.tl (Ls := []) [] (by simp -dsimp -implicitDefEqProofs only [go_sem, seval]) ?_ (by simp) (by simp [sg]) trivial⟩
      simp -dsimp -implicitDefEqProofs only [go_sem, seval]
      exact ⟨renL_cl rfl ((clU32 _).2 trivial), renL_cl rfl ((clU32 _).2 trivial)⟩
  · have hi0 : i = 0 := by omega
    subst hi0
    have hUm : U.length = m + (k + 1) := by rw [hD.1, hO]
    obtain ⟨v1, v2⟩ := dvo_end ha hb n1 hD
    have ht1 := nat90 O (by omega) hD.2.2.2.1
    rw [v1] at ht1
    have ht2 := nat90 (U.take (k + 1)) (by rw [List.length_take]; omega) (okD_take hD.2.2.1 _)
    have hvn := val_nn (okD_take hD.2.2.1 (k + 1))
    have hll : (dig (valN (U.take (k + 1)))).length < 1073741824 := by
      have h1 := val_lt (okD_take hD.2.2.1 (k + 1))
      rw [List.length_take, Nat.min_eq_left (by omega)] at h1
      have := dig_len_le hvn h1
      omega
    have hr := right96 (dig (valN (U.take (k + 1)))) s (by omega) (dig_ok _) hll
    rw [dig_val hvn, v2] at hr
    have tU : takeA 0 (m + (k + 1)) (U.map U32C) = U.map U32C := takeU _ _ (by omega)
    have tO : takeA 0 m (O.map U32C) = O.map U32C := takeU _ _ (by omega)
    have sU : takeA 0 (k + 1) (U.map U32C) = (U.take (k + 1)).map U32C := by rw [takeA_eq, List.drop_zero, List.map_take]
    refine AtCode.le ⟨153, tl [(9, .v (.int .u64 s)), (10, NatA U), (12, I ((k + 1 : Nat) : Int)), (13, NatA O)], [], 2, ⟨[], some (.mp none)⟩⟩ (Le.ftl (Ls := []) [0, 1] [] (by simp -dsimp -implicitDefEqProofs only [go_sem, seval, fz, fzB, List.length_map, hUm, hO, Nat.zero_add, Nat.le_refl, tU, tO]) (by simp) (by simp) (by simp [sg]) trivial) ?_
    refine AtCode.draw 10 [([], []), ([0], []), ([], []), ([], []), ([2, 3], []), ([0, 1, 2, 3, 4], []), ([], []), ([0, 1, 2, 3, 4, 5, 6], []), ([0, 1, 2, 3, 4, 5, 6, 7], []), ([0, 1, 2, 3, 4, 5, 6, 7, 8], [])] (by kernel_rfl) ?_
    simp -dsimp -implicitDefEqProofs only [go_sem, seval]
    refine QFn.use _ ht1 (by simp -dsimp -implicitDefEqProofs only [go_sem, seval]) ?_
    simp -dsimp -implicitDefEqProofs only [go_sem, seval, Int.natCast_nonneg, Int.toNat_natCast, List.length_map, hUm, sU]
    refine ⟨by omega, ?_⟩
    rw [← List.map_take]
    refine QFn.use _ ht2 (by simp -dsimp -implicitDefEqProofs only [go_sem, seval]) ?_
    simp -dsimp -implicitDefEqProofs only [go_sem, seval]
    refine QFn.use _ hr (by simp -dsimp -implicitDefEqProofs only [go_sem, seval]) ?_
    simp -dsimp -implicitDefEqProofs only [go_sem, seval]
theorem div89 (a b : Int) (ha : 0 ≤ a) (hb : 0 < b) (hal : (dig a).length < 1073741823) (hbl : (dig b).length < 1073741823) : PFun Try.prog 89 [NatA (dig a), NatA (dig b)] (.t [NatA (dig (a / b)), NatA (dig (a % b))]) := by
  by_cases h : a < b
  · exact div89s a b ha hb (by omega) (by omega) h
  · by_cases h1 : (dig b).length = 1
    · exact div89o a b ha hb (by omega) h1 h
    · exact div89g a b ha hb hal h1 h
end

section
set_option maxRecDepth 20000
attribute [local go_sem] clU32 clNat clBigT clBigC
theorem floor81 (a b : Int) (hb : 0 < b) (ha2 : szB a) (hb2 : szB b) : PFun Try.prog 81 [BigA a, BigA b] (BigA (a / b)) := by
  unfold szB at ha2 hb2
  have eb : (b.natAbs : Int) = b := by omega
  have nb : ¬ b < 0 := by omega
  rw [eb] at hb2
  have hd := div89 (a.natAbs : Int) b (by omega) hb (by omega) (by omega)
  by_cases h : a < 0
  · have hq : (0 : Int) < (dig (a.natAbs : Int)).length := (dig_pos (by omega)).2 (by omega)
    have hq' : ¬ (((dig (a.natAbs : Int)).length : Nat) : Int) = 0 := by omega
    have hm0 := Int.emod_nonneg (a.natAbs : Int) (show b ≠ 0 by omega)
    have hm1 := Int.emod_lt_of_pos (a.natAbs : Int) hb
    have he := Int.emod_add_mul_ediv (a.natAbs : Int) b
    have q0 : 0 ≤ (a.natAbs : Int) / b := Int.ediv_nonneg (by omega) (by omega)
    by_cases hr : 0 < (a.natAbs : Int) % b
    · have hr2 : (0 : Int) < (dig ((a.natAbs : Int) % b)).length := (dig_pos hm0).2 hr
      have hres : a / b = -((a.natAbs : Int) / b + 1) := by
        refine (div_uni (q := -((a.natAbs : Int) / b + 1)) (r := b - (a.natAbs : Int) % b) hb ?_ (by omega) (by omega)).1
        rw [Int.mul_neg, Int.mul_add, Int.mul_one]; omega
      have qs : (dig ((a.natAbs : Int) / b)).length < 1073741824 := by
        have := dig_len_mono (n := (a.natAbs : Int)) (m := (a.natAbs : Int) / b) q0 (Int.ediv_le_self _ (by omega)); omega
      have had := add83 (dig ((a.natAbs : Int) / b)) [1] (dig_ok _) (by intro d hd; simp at hd; subst hd; decide) qs (by decide)
      rw [dig_val q0, show valN [1] = 1 by rfl] at had
      have hp2 : (0 : Int) < (dig ((a.natAbs : Int) / b + 1)).length := (dig_pos (by omega)).2 (by omega)
      have e1 : ((-((a.natAbs : Int) / b + 1)).natAbs : Int) = (a.natAbs : Int) / b + 1 := by omega
      have e2 : -((a.natAbs : Int) / b + 1) < 0 := by omega
      rw [hres]
      refine PFun.intro 400 mixed Try.func81 (by kernel_rfl) rfl (clBig _) (Nat.le_of_ble_eq_true rfl) ?_; rw [Try.ntmps81, Try.results81]
      unfold BigA BigC
      simp only [e1, e2, eb, nb, h, decide_true, decide_false]
      simp -dsimp -implicitDefEqProofs only [go_sem, seval]
      refine AtFn.pure0 hd ?_
      simp -dsimp -implicitDefEqProofs only [go_sem, seval, List.length_map, hq', hr2]
      refine AtFn.pure had ?_
      simp -dsimp -implicitDefEqProofs only [go_sem, seval, List.length_map, hp2]
      rfl
    · have hr2 : ¬ (0 : Int) < (dig ((a.natAbs : Int) % b)).length := fun q => hr ((dig_pos hm0).1 q)
      have hres : a / b = -((a.natAbs : Int) / b) := by
        refine (div_uni (q := -((a.natAbs : Int) / b)) (r := 0) hb ?_ (by omega) (by omega)).1
        rw [Int.mul_neg]; omega
      have qp : 0 < (a.natAbs : Int) / b := by
        rcases Int.lt_or_le 0 ((a.natAbs : Int) / b) with q | q
        · exact q
        · have : (a.natAbs : Int) / b = 0 := by omega
          rw [this, Int.mul_zero] at he; omega
      have hp2 : (0 : Int) < (dig ((a.natAbs : Int) / b)).length := (dig_pos (by omega)).2 (by omega)
      have e1 : ((-((a.natAbs : Int) / b)).natAbs : Int) = (a.natAbs : Int) / b := by omega
      have e2 : -((a.natAbs : Int) / b) < 0 := by omega
      rw [hres]
      refine PFun.intro 400 mixed Try.func81 (by kernel_rfl) rfl (clBig _) (Nat.le_of_ble_eq_true rfl) ?_; rw [Try.ntmps81, Try.results81]
      unfold BigA BigC
      simp only [e1, e2, eb, nb, h, decide_true, decide_false]
      simp -dsimp -implicitDefEqProofs only [go_sem, seval]
      refine AtFn.pure0 hd ?_
      simp -dsimp -implicitDefEqProofs only [go_sem, seval, List.length_map, hq', hr2, hp2]
  · have ea : (a.natAbs : Int) = a := by omega
    have q0 : 0 ≤ a / b := Int.ediv_nonneg (by omega) (by omega)
    have e1 : ((a / b).natAbs : Int) = a / b := by omega
    have e2 : ¬ a / b < 0 := by omega
    rw [ea] at hd
    refine PFun.intro 400 mixed Try.func81 (by kernel_rfl) rfl (clBig _) (Nat.le_of_ble_eq_true rfl) ?_; rw [Try.ntmps81, Try.results81]
    unfold BigA BigC
    simp only [e1, e2, ea, eb, nb, h, decide_true, decide_false]
    simp -dsimp -implicitDefEqProofs only [go_sem, seval]
    refine AtFn.pure0 hd ?_
    simp -dsimp -implicitDefEqProofs only [go_sem, seval, List.length_map]
theorem or64 {a b : Int} (ha : 0 ≤ a ∧ a < 4294967296) (hb : 0 ≤ b ∧ b < 4294967296) :
    wr ((BitVec.ofInt IntKind.i64.bits a ||| BitVec.ofInt IntKind.i64.bits (wr (b * 4294967296))).toNat : Int) = wr (a + b * 4294967296) := by
  obtain ⟨n, rfl⟩ := Int.eq_ofNat_of_zero_le ha.1
  obtain ⟨c, rfl⟩ := Int.eq_ofNat_of_zero_le hb.1
  have hn : n < 2 ^ 32 := by omega
  have kb : ((2 ^ IntKind.i64.bits : Nat) : Int) = 18446744073709551616 := by decide
  have n1 : ((n : Nat) : Int) % 18446744073709551616 = (n : Nat) := Int.emod_eq_of_lt (by omega) (by omega)
  have n2 : wr (((c : Nat) : Int) * 4294967296) % 18446744073709551616 = (2 ^ 32 * c : Nat) := by rw [wr_def]; omega
  rw [BitVec.toNat_or, BitVec.toNat_ofInt, BitVec.toNat_ofInt, kb, n1, n2, Int.toNat_natCast, Int.toNat_natCast, Nat.or_comm, ← Nat.two_pow_add_eq_or_of_lt hn]
  congr 1
  omega
theorem val_two {D : List Int} (n : Nat) (hn : n = min D.length 2) : wr (valN (D.take n)) = wr (valN D) := by
  rcases Nat.lt_or_ge D.length 2 with h | h
  · rw [List.take_of_length_le (by omega)]
  · have e : n = 2 := by omega
    subst e
    rw [val_split D 2 h, show (4294967296 : Int) ^ 2 = 18446744073709551616 by decide, wr_per]
theorem small86 (z : Int) (hz : szB z) : PFun Try.prog 86 [BigA z] (I (wr z)) := by
  unfold szB at hz
  obtain ⟨D, hD⟩ : ∃ D, D = dig (z.natAbs : Int) := ⟨_, rfl⟩
  have hv := dig_val (n := (z.natAbs : Int)) (by omega)
  have ho := dig_ok (z.natAbs : Int)
  obtain ⟨sz, hsz⟩ : ∃ sz, sz = decide (z < 0) := ⟨_, rfl⟩
  unfold BigA BigC
  rw [← hD] at hv ho hz ⊢
  rw [← hsz]
  refine PFun.intro 400 mixed Try.func86 (by kernel_rfl) rfl (by first | exact .v _ | (simp [Cl_v, Cl_t, Cl_g, Cl_fn, Cl_rp, Cl_ro]; done) | (simp [Cl_v, Cl_t, Cl_g, Cl_fn, Cl_rp, Cl_ro, or_imp, forall_and]; done) | (split <;> simp [Cl_v, Cl_t, Cl_g, Cl_fn, Cl_rp, Cl_ro])) (Nat.le_of_ble_eq_true rfl) ?_; rw [Try.ntmps86, Try.results86]
  simp -dsimp -implicitDefEqProofs (maxSteps := 1000000) only [go_sem, ↓reduceIte, Nat.reduceAdd, Nat.reduceSub, Nat.reduceMul, Nat.reduceLT, Nat.reduceLeDiff, Nat.reduceEqDiff, Nat.reduceBEq, Nat.reduceBNe, Int.reduceToNat, Int.reduceLT, Int.reduceLE, Int.reduceNeg, reduceCtorEq, Int.reduceEq, Int.reduceNe, List.length_map]
  obtain ⟨n, hn⟩ : ∃ n, n = min D.length 2 := ⟨_, rfl⟩
  have hn1 : min ((D.length : Nat) : Int) 2 = ((n : Nat) : Int) := by omega
  have hnl : n ≤ D.length := by omega
  have hln : (D.take n).length = n := by rw [List.length_take]; omega
  simp -dsimp -implicitDefEqProofs (maxSteps := 1000000) only [go_sem, ↓reduceIte, Nat.reduceAdd, Nat.reduceSub, Nat.reduceMul, Nat.reduceLT, Nat.reduceLeDiff, Nat.reduceEqDiff, Nat.reduceBEq, Nat.reduceBNe, Int.reduceToNat, Int.reduceLT, Int.reduceLE, Int.reduceNeg, reduceCtorEq, Int.reduceEq, Int.reduceNe, hn1, Int.natCast_nonneg, Int.toNat_natCast, hnl, ← List.map_take, List.length_map, hln, Nat.zero_le]
  refine ⟨{i : Nat // i ≤ n}, fun i => ⟨32, tl [(1, .ptr 0 0 0), (3, I (wr (valN (D.take i.1)))), (12, NatA (D.take n)), (13, I (n : Nat)), (14, I i.1)], [(0, ⟨2, [[Bo sz, NatA D]]⟩)], 1, .nil⟩, fun i => n - i.1,
    ⟨⟨0, by omega⟩, Le.tl (Ls := []) (y := none) [] (by simp -dsimp -implicitDefEqProofs (maxSteps := 1000000) only [go_sem, ↓reduceIte, Nat.reduceAdd, Nat.reduceSub, Nat.reduceMul, Nat.reduceLT, Nat.reduceLeDiff, Nat.reduceEqDiff, Nat.reduceBEq, Nat.reduceBNe, Int.reduceToNat, Int.reduceLT, Int.reduceLE, Int.reduceNeg, reduceCtorEq, Int.reduceEq, Int.reduceNe, List.take_zero, valN, show wr 0 = 0 by decide]) ?_ (by simp) (by simp [sg]) trivial⟩, fun i => ?_⟩
  · simp -dsimp -implicitDefEqProofs (maxSteps := 1000000) only [go_sem, ↓reduceIte, Nat.reduceAdd, Nat.reduceSub, Nat.reduceMul, Nat.reduceLT, Nat.reduceLeDiff, Nat.reduceEqDiff, Nat.reduceBEq, Nat.reduceBNe, Int.reduceToNat, Int.reduceLT, Int.reduceLE, Int.reduceNeg, reduceCtorEq, Int.reduceEq, Int.reduceNe]
    exact renL_cl rfl (by intro c hc s hs; simp at hc; subst hc; simp at hs; rcases hs with rfl | rfl; exact .v _; exact (clNat _).2 trivial)
  obtain ⟨i, hi⟩ := i
  simp -dsimp -implicitDefEqProofs (maxSteps := 1000000) only [go_sem, ↓reduceIte, Nat.reduceAdd, Nat.reduceSub, Nat.reduceMul, Nat.reduceLT, Nat.reduceLeDiff, Nat.reduceEqDiff, Nat.reduceBEq, Nat.reduceBNe, Int.reduceToNat, Int.reduceLT, Int.reduceLE, Int.reduceNeg, reduceCtorEq, Int.reduceEq, Int.reduceNe]
  refine ⟨fun h => ?_, fun h => ?_⟩
  · have hlt : i < n := by omega
    have e3 : wr ((i : Int) + 1) = ((i + 1 : Nat) : Int) := by rw [wr_in] <;> omega
    have gA := getU (D := D.take n) (i := i) (by omega)
    have hg : (D.take n).getD i 0 = D.getD i 0 := by simp [List.getD, List.getElem?_take, hlt]
    rw [hg] at gA
    have d0 := okD_get ho i
    have x0 : IntKind.i64.wrap (D.getD i 0) = D.getD i 0 := wrap_i64 (by omega) (by omega)
    have hi2 : i = 0 ∨ i = 1 := by omega
    rcases hi2 with rfl | rfl
    · have w0 : wr (32 * 0) = 0 := by decide
      have w1 : wr (D.getD 0 0) = D.getD 0 0 := x0
      have w2 : wr (wr (D.getD 0 0) * 2 ^ min 0 64) = D.getD 0 0 := by rw [w1, show ((2 : Int) ^ min 0 64) = 1 by decide, Int.mul_one, w1]
      have w3 : wr (valN []) = 0 := by decide
      have hor := or64 (a := 0) (b := 0) ⟨by omega, by omega⟩ ⟨by omega, by omega⟩
      have w4 : wr ((BitVec.ofInt IntKind.i64.bits 0 ||| BitVec.ofInt IntKind.i64.bits (D.getD 0 0)).toNat : Int) = wr (D.getD 0 0) := by
        have kb : ((2 ^ IntKind.i64.bits : Nat) : Int) = 18446744073709551616 := by decide
        rw [BitVec.toNat_or, BitVec.toNat_ofInt, BitVec.toNat_ofInt, kb, Int.zero_emod, Int.toNat_zero, Nat.zero_or, Int.emod_eq_of_lt (by omega) (by omega), Int.toNat_of_nonneg d0.1]
      have e1 : valN (D.take (0 + 1)) = D.getD 0 0 := by rw [val_take, List.take_zero]; simp [valN]
      simp -dsimp -implicitDefEqProofs (maxSteps := 1000000) only [go_sem, ↓reduceIte, Nat.reduceAdd, Nat.reduceSub, Nat.reduceMul, Nat.reduceLT, Nat.reduceLeDiff, Nat.reduceEqDiff, Nat.reduceBEq, Nat.reduceBNe, Int.reduceToNat, Int.reduceLT, Int.reduceLE, Int.reduceNeg, reduceCtorEq, Int.reduceEq, Int.reduceNe, gA, e3, w0, w2, w3, w4, Int.le_refl]
      refine ⟨⟨1, by omega⟩, by show n - 1 < n - 0; omega, Le.tl (Ls := []) (y := none) [] (by simp -dsimp -implicitDefEqProofs (maxSteps := 1000000) only [go_sem, ↓reduceIte, Nat.reduceAdd, Nat.reduceSub, Nat.reduceMul, Nat.reduceLT, Nat.reduceLeDiff, Nat.reduceEqDiff, Nat.reduceBEq, Nat.reduceBNe, Int.reduceToNat, Int.reduceLT, Int.reduceLE, Int.reduceNeg, reduceCtorEq, Int.reduceEq, Int.reduceNe, e1, show wr (0 + 1) = 1 by decide]) ?_ (by simp) (by simp [sg]) trivial⟩
      simp -dsimp -implicitDefEqProofs (maxSteps := 1000000) only [go_sem, ↓reduceIte, Nat.reduceAdd, Nat.reduceSub, Nat.reduceMul, Nat.reduceLT, Nat.reduceLeDiff, Nat.reduceEqDiff, Nat.reduceBEq, Nat.reduceBNe, Int.reduceToNat, Int.reduceLT, Int.reduceLE, Int.reduceNeg, reduceCtorEq, Int.reduceEq, Int.reduceNe]
      exact renL_cl rfl (by intro c hc s hs; simp at hc; subst hc; simp at hs; rcases hs with rfl | rfl; exact .v _; exact (clNat _).2 trivial)
    · have w0 : wr (32 * 1) = 32 := by decide
      have w1 : wr (D.getD 1 0) = D.getD 1 0 := x0
      have d9 := okD_get ho 0
      have w2 : wr (wr (D.getD 1 0) * 2 ^ min 32 64) = wr (D.getD 1 0 * 4294967296) := by rw [w1, show ((2 : Int) ^ min 32 64) = 4294967296 by decide]
      have e1 : valN (D.take 1) = D.getD 0 0 := by rw [show 1 = 0 + 1 from rfl, val_take, List.take_zero]; simp [valN]
      have w3 : wr (valN (D.take 1)) = D.getD 0 0 := by rw [e1]; exact wr_in (by omega) (by omega)
      have w4 := or64 (a := D.getD 0 0) (b := D.getD 1 0) d9 d0
      have e2 : valN (D.take (1 + 1)) = D.getD 0 0 + D.getD 1 0 * 4294967296 := by rw [val_take, e1]; omega
      simp -dsimp -implicitDefEqProofs (maxSteps := 1000000) only [go_sem, ↓reduceIte, Nat.reduceAdd, Nat.reduceSub, Nat.reduceMul, Nat.reduceLT, Nat.reduceLeDiff, Nat.reduceEqDiff, Nat.reduceBEq, Nat.reduceBNe, Int.reduceToNat, Int.reduceLT, Int.reduceLE, Int.reduceNeg, reduceCtorEq, Int.reduceEq, Int.reduceNe, gA, e3, w0, w2, w3, w4, Int.le_refl, show (0 : Int) ≤ 32 by decide]
      refine ⟨⟨2, by omega⟩, by show n - 2 < n - 1; omega, Le.tl (Ls := []) (y := none) [] (by simp -dsimp -implicitDefEqProofs (maxSteps := 1000000) only [go_sem, ↓reduceIte, Nat.reduceAdd, Nat.reduceSub, Nat.reduceMul, Nat.reduceLT, Nat.reduceLeDiff, Nat.reduceEqDiff, Nat.reduceBEq, Nat.reduceBNe, Int.reduceToNat, Int.reduceLT, Int.reduceLE, Int.reduceNeg, reduceCtorEq, Int.reduceEq, Int.reduceNe, e2, show wr (1 + 1) = 2 by decide]) ?_ (by simp) (by simp [sg]) trivial⟩
      simp -dsimp -implicitDefEqProofs (maxSteps := 1000000) only [go_sem, ↓reduceIte, Nat.reduceAdd, Nat.reduceSub, Nat.reduceMul, Nat.reduceLT, Nat.reduceLeDiff, Nat.reduceEqDiff, Nat.reduceBEq, Nat.reduceBNe, Int.reduceToNat, Int.reduceLT, Int.reduceLE, Int.reduceNeg, reduceCtorEq, Int.reduceEq, Int.reduceNe]
      exact renL_cl rfl (by intro c hc s hs; simp at hc; subst hc; simp at hs; rcases hs with rfl | rfl; exact .v _; exact (clNat _).2 trivial)
  · have hin : i = n := by omega
    subst hin
    have hvt := val_two i hn
    rw [hv] at hvt
    cases sz
    · have hz0 : ¬ z < 0 := by intro q; rw [decide_eq_true q] at hsz; cases hsz
      simp -dsimp -implicitDefEqProofs only [go_sem, seval]
      rw [hvt, show (z.natAbs : Int) = z by omega]
    · have hz0 : z < 0 := by simpa using hsz.symm
      simp -dsimp -implicitDefEqProofs only [go_sem, seval]
      rw [hvt, wr_sub_r, show 0 - (z.natAbs : Int) = z by omega]
theorem szB_of {z : Int} {k : Nat} (h : (z.natAbs : Int) < 4294967296 ^ k) (hk : k < 536870912) : szB z := by
  unfold szB
  have := dig_len_le (by omega) h
  omega
theorem clI (l : List Int) : (∀ c ∈ l.map (fun n => [I n]), ∀ s ∈ c, Cl s) ↔ True := iff_true_intro (fun c hc s hs => by obtain ⟨r, _, rfl⟩ := List.mem_map.1 hc; simp at hs; subst hs; exact .v _)
attribute [local go_sem] clI
abbrev IntsA (l : List Int) : AV := .ro 1 (l.map fun n => [I n])
def prodZ : List Int → Int
  | [] => 1
  | n :: r => n * prodZ r
theorem prod_snoc : ∀ (l : List Int) (n : Int), prodZ (l ++ [n]) = prodZ l * n
  | [], n => by simp [prodZ]
  | m :: r, n => by simp only [List.cons_append, prodZ, prod_snoc r n, Int.mul_assoc]
theorem prod_take (l : List Int) (i : Nat) (h : i < l.length) : prodZ (l.take (i + 1)) = prodZ (l.take i) * l.getD i 0 := by
  rw [take_suc' l i h, prod_snoc]
theorem prod_b : ∀ (l : List Int), (∀ n ∈ l, -9223372036854775808 ≤ n ∧ n ≤ 9223372036854775807) → ((prodZ l).natAbs : Int) ≤ 18446744073709551616 ^ l.length
  | [], _ => by decide
  | n :: r, h => by
    have ih := prod_b r (fun x hx => h x (List.mem_cons_of_mem _ hx))
    have h1 := h n List.mem_cons_self
    simp only [prodZ, Int.natAbs_mul, List.length_cons, Int.pow_succ]
    push_cast
    have h2 : (n.natAbs : Int) ≤ 18446744073709551616 := by omega
    rw [Int.mul_comm]
    exact Int.mul_le_mul ih h2 (by omega) (Int.le_of_lt (Int.pow_pos (by decide)))
theorem prod_sz {l : List Int} (h : ∀ n ∈ l, -9223372036854775808 ≤ n ∧ n ≤ 9223372036854775807) (hl : l.length < 100) : szB (prodZ l) := by
  have hb := prod_b l h
  refine szB_of (k := 2 * l.length + 1) ?_ (by omega)
  rw [Int.pow_succ, Int.pow_mul, show (4294967296 : Int) ^ 2 = 18446744073709551616 by decide]
  have : (0 : Int) < 18446744073709551616 ^ l.length := Int.pow_pos (by decide)
  omega
theorem getIi {l : List Int} {i : Nat} (h : i < l.length) : (l.map fun n => [I n])[i]? = some [I (l.getD i 0)] := by rw [List.getElem?_map, getI h]; rfl
theorem clZ1 : ∀ c ∈ [[Bo false, nilS]], ∀ s ∈ c, Cl s := by
  intro c hc s hs
  simp at hc; subst hc; simp at hs
  rcases hs with rfl | rfl <;> exact .v _
theorem clB1 (z : Int) : ∀ c ∈ [BigC z], ∀ s ∈ c, Cl s := by
  intro c hc s hs
  simp only [List.mem_cons, List.not_mem_nil, or_false] at hc; subst hc; exact (clBigC z).2 trivial s hs
theorem product79 (l : List Int) (h : ∀ n ∈ l, -9223372036854775808 ≤ n ∧ n ≤ 9223372036854775807) (hl : l.length < 90) : PFun Try.prog 79 [IntsA l] (BigA (prodZ l)) := by
  have hw1 := whole74 1 (by decide) (by decide)
  refine PFun.intro 400 mixed Try.func79 (by kernel_rfl) rfl (clBig _) (Nat.le_of_ble_eq_true rfl) ?_; rw [Try.ntmps79, Try.results79]
  simp -dsimp -implicitDefEqProofs only [go_sem, seval]
  refine AtFn.pure0 hw1 ?_
  simp -dsimp -implicitDefEqProofs only [go_sem, seval, List.length_map]
  refine ⟨{i : Nat // i ≤ l.length}, fun i => ⟨19, tl [(2, .ptr 0 0 0), (3, .ptr 1 0 0), (7, IntsA l), (8, I (l.length : Nat)), (9, I i.1)], [(0, ⟨2, [[Bo false, nilS]]⟩), (1, ⟨2, [BigC (prodZ (l.take i.1))]⟩)], 2, .nil⟩, fun i => l.length - i.1,
    ⟨⟨0, by omega⟩, Le.tl (Ls := []) (y := none) [] (by simp -dsimp -implicitDefEqProofs only [go_sem, seval]) ?_ (by simp) (by simp [sg]) trivial⟩, fun i => ?_⟩
  · simp -dsimp -implicitDefEqProofs only [go_sem, seval]
    exact ⟨renL_cl rfl clZ1, renL_cl rfl (clB1 _)⟩
  obtain ⟨i, hi⟩ := i
  simp -dsimp -implicitDefEqProofs only [go_sem, seval]
  refine ⟨fun h9 => ?_, fun h9 => ?_⟩
  · have hlt : i < l.length := by omega
    have e3 : wr ((i : Int) + 1) = ((i + 1 : Nat) : Int) := by rw [wr_in] <;> omega
    have gA := getIi hlt
    have hm := h (l.getD i 0) (by rw [List.getD, List.getElem?_eq_getElem hlt]; exact List.getElem_mem hlt)
    have hw := whole74 (l.getD i 0) hm.1 hm.2
    have htm := times69 (prodZ (l.take i)) (l.getD i 0) (prod_sz (fun n hn => h n (List.mem_of_mem_take hn)) (by rw [List.length_take]; omega)) (szB_of (k := 2) (by rw [show (4294967296 : Int) ^ 2 = 18446744073709551616 by decide]; omega) (by decide))
    rw [← prod_take l i hlt] at htm
    simp -dsimp -implicitDefEqProofs only [go_sem, seval, gA, Int.natCast_nonneg, Int.toNat_natCast]
    refine AtCode.draw 4 [([], []), ([], []), ([1], []), ([0, 1, 2], []), ([0, 1, 2, 3], [])] (by kernel_rfl) ?_
    simp -dsimp -implicitDefEqProofs only [go_sem, seval]
    refine QFn.use _ hw (by simp -dsimp -implicitDefEqProofs only [go_sem, seval]) ?_
    simp -dsimp -implicitDefEqProofs only [go_sem, seval]
    refine QFn.use _ htm (by simp -dsimp -implicitDefEqProofs only [go_sem, seval]) ?_
    simp -dsimp -implicitDefEqProofs only [go_sem, seval, e3]
    refine ⟨⟨i + 1, by omega⟩, by show l.length - (i + 1) < l.length - i; omega, Le.tl (Ls := []) (y := none) [] (by simp -dsimp -implicitDefEqProofs only [go_sem, seval, e3]) ?_ (by simp) (by simp [sg]) trivial⟩
    simp -dsimp -implicitDefEqProofs only [go_sem, seval]
    exact ⟨renL_cl rfl clZ1, renL_cl rfl (clB1 _)⟩
  · have hin : i = l.length := by omega
    subst hin
    rw [List.take_of_length_le (Nat.le_refl _)]
theorem rounded71 (a b : Int) (hb : 0 < b) (ha : szB a) (hbs : szB b) (h1 : szB (a * 2)) (h2 : szB (a * 2 + b)) (h3 : szB (b * 2)) (h4 : szB ((a * 2 + b) / (b * 2))) : PFun Try.prog 71 [BigA a, BigA b] (I (wr ((a * 2 + b) / (b * 2)))) := by
  have s2 : szB 2 := szB_of (k := 1) (by decide) (by decide)
  have hw := whole74 2 (by decide) (by decide)
  have t1 := times69 a 2 ha s2
  have p1 := plus70 (a * 2) b h1 hbs
  have t2 := times69 b 2 hbs s2
  have f1 := floor81 (a * 2 + b) (b * 2) (by omega) h2 h3
  have sm := small86 ((a * 2 + b) / (b * 2)) h4
  refine PFun.intro 400 mixed Try.func71 (by kernel_rfl) rfl (by first | exact .v _ | (simp [Cl_v, Cl_t, Cl_g, Cl_fn, Cl_rp, Cl_ro]; done) | (simp [Cl_v, Cl_t, Cl_g, Cl_fn, Cl_rp, Cl_ro, or_imp, forall_and]; done) | (split <;> simp [Cl_v, Cl_t, Cl_g, Cl_fn, Cl_rp, Cl_ro])) (Nat.le_of_ble_eq_true rfl) ?_; rw [Try.ntmps71, Try.results71]
  simp -dsimp -implicitDefEqProofs only [go_sem, seval]
  refine AtFn.pure0 hw ?_
  simp -dsimp -implicitDefEqProofs only [go_sem, seval]
  refine AtCode.draw 11 [([], []), ([], []), ([0, 1], []), ([], []), ([0, 1, 2, 3], []), ([], []), ([], []), ([0, 1, 2, 3, 4, 5, 6], []), ([0, 1, 2, 3, 4, 5, 6, 7], []), ([0, 1, 2, 3, 4, 5, 6, 7, 8], []), ([0, 1, 2, 3, 4, 5, 6, 7, 8, 9], [])] (by kernel_rfl) ?_
  simp -dsimp -implicitDefEqProofs only [go_sem, seval]
  refine QFn.use _ t1 (by simp -dsimp -implicitDefEqProofs only [go_sem, seval]) ?_
  simp -dsimp -implicitDefEqProofs only [go_sem, seval]
  refine QFn.use _ p1 (by simp -dsimp -implicitDefEqProofs only [go_sem, seval]) ?_
  simp -dsimp -implicitDefEqProofs only [go_sem, seval]
  refine QFn.use _ t2 (by simp -dsimp -implicitDefEqProofs only [go_sem, seval]) ?_
  simp -dsimp -implicitDefEqProofs only [go_sem, seval]
  refine QFn.use _ f1 (by simp -dsimp -implicitDefEqProofs only [go_sem, seval]) ?_
  simp -dsimp -implicitDefEqProofs only [go_sem, seval]
  refine QFn.use _ sm (by simp -dsimp -implicitDefEqProofs only [go_sem, seval]) ?_
  simp -dsimp -implicitDefEqProofs only [go_sem, seval]
end

end Go.Proofs.Ytckbchkkjnahlaa
