/- What functions of the given program answer, part 6. Conditions: each theorem speaks for itself. -/
import Derived.Test.YtckbchkkjnahlaaBTy
import Derived.Test.YtckbchkkjnahlaaBF1
import Derived.Test.YtckbchkkjnahlaaBF2
import Derived.Test.YtckbchkkjnahlaaBF3
import Derived.Test.YtckbchkkjnahlaaBF4
import Derived.Test.YtckbchkkjnahlaaBF5
set_option linter.unusedSimpArgs false
set_option linter.unusedVariables false
namespace Go.Proofs.Ytckbchkkjnahlaa
open Go Go.Eng Go.RowKit
attribute [local go_sem ↓] qE_move qE_assign qE_pick qE_load qE_fieldAddr qE_indexAddr qE_extract qE_binOp qE_neg qE_not qE_convert qE_build qE_len qE_max2 qE_min2 qE_nilCheck qE_slice vc_end vc_skip vc_ret vc_seq vc_cond vc_block vc_exit vc_region vc_draw vc_loop vc_blk vc_lp vc_o_nil vc_o vc_o_guard onK_eq oK_move oK_assign oK_pick oK_load oK_fieldAddr oK_indexAddr oK_index oK_extract oK_binOp oK_unOp oK_convert oK_nilCheck oK_slice oK_build oK_len oK_max oK_min onN_eq oK_box oK_alloc oK_buildSlice oK_makeSlice onH_eq oK_store onA_eq oK_append oK_call oK_copy oK_cap oK_clear bV_add bV_sub bV_mul bV_quo bV_rem bV_or bV_shl bV_shr bV_eql bV_neq bV_lss bV_leq bV_gtr bV_geq vcQ_nil vcQ_cons vcQ_guard Q_move Q_assign Q_pick Q_load Q_fieldAddr Q_indexAddr Q_extract Q_binOp Q_unOp Q_convert Q_nilCheck Q_slice Q_build Q_len Q_alloc Q_makeSlice Q_buildSlice Q_call qE_index tailB_nil tailB_true onS_eq tailB_store onP_eq tailB_append onQ_eq onQB_eq loadE indexE
attribute [local go_sem] force_eq optK_some optE_some optE_none bK_v tK_t fnK_fn fyK_fn nK_ptr pK_ptr pK_rp brK_true brK_false brK_not evA_tmp evA_const evA_func putA_some putA_none pushA_eq slots_zero slots_nil tl_nil tl_cons find_cons find_nil setN_cons setN_nil dropN_nil dropN_cons loE_none loE_some hiE_none hiE_some slE_sl slE_ro bE_i bE_beq bE_bne bE_eql bE_neq intsA_nil intsA_cons gdK_b gdK_u popTo_blk popTo_c popTo_lp nilE_tmp nilE_int nilE_nil srcE_ro srcE_sl dstE_sl dstE_ez fin_eq res_nil res_tmp res_cell tup1 tup0 optA_some frz_v frz_ro frz_g frz_sl nm_v nm_ro nm_sl cells_v cells_g cells_ro cells_ptr cells_sl one_int one_bool one_slice oneA_v oneA_ro oneA_sl ofV_int ofV_bool ofV_string ofV_slice len_ro len_sl len_nil asI_int fill_nil fill_cons chunks_nil chunks_cons take_all DrawK_eq idR_eq addB_some roB_nil roB_cons sg_nil sg_cons ren_v ren_nil ren_ptr ren_sl ren_ro iK_ro iK_sl ixE_s takeA_00 takeA_s nil_eq maskE_eq i_InlQ i_tup2 i_RenF_nil i_RenF_cons wrap_wr brK_dec maskH_eq upd_get slots_succ Cl_v Cl_ro Cl_rp Cl_fn Cl_g Cl_t Bool.false_eq_true decide_true decide_false beq_self_eq_true true_and and_true ne_eq not_true not_false_eq_true List.elem_cons List.elem_nil List.contains_cons List.contains_nil List.getD_cons_zero List.getD_cons_succ Int.cast_ofNat_Int Bool.or_true Bool.true_or Bool.or_false Bool.false_or if_true if_false List.toList_toArray List.map_cons List.map_nil List.cons_append List.nil_append List.append_nil List.flatMap_cons List.flatMap_nil List.getElem?_cons_zero List.getElem?_cons_succ List.length_cons List.length_nil List.drop_succ_cons List.drop_zero List.take_succ_cons List.take_zero List.all_cons List.all_nil List.set_cons_zero List.set_cons_succ Option.bind_some Option.bind_none Option.map_some Option.map_none List.headD_cons List.tail_cons List.getElem?_toArray beq_true beq_false Bool.not_true Bool.not_false Bool.true_and Bool.and_true Bool.false_and Bool.and_false newCh Option.some.injEq exists_eq_left' sg_nil sg_cons List.mem_cons List.not_mem_nil forall_eq_or_imp forall_eq false_implies implies_true or_false false_or false_and and_false or_true true_or exists_false Option.isSome_some Option.isSome_none List.range_zero
attribute [local go_sem] T.ik2 T.us2 T.sz3 T.by3 T.ag3 T.pt3 T.ik3 T.us3 T.ze3 T.sz4 T.ag4 T.bo4 T.ik5 T.us5 T.st9 T.sz22 T.ag22 T.sl22 T.ar22 T.pt22 T.ik22 T.us22 T.sl25 T.ar25 T.pt25 T.ik25 T.us25 T.sz27 T.by27 T.ag27 T.ze27 T.fl27_0 T.fl27_1 T.bu27 T.sz30 T.ag30 T.sz32 T.ag32 T.ze32 T.fl32_0 T.fl32_1 T.fl32_2 T.fl32_3 T.bu32 T.sz34 T.by34 T.ag34 T.ze34 T.fl34_0 T.fl34_1 T.fl34_2 T.bu34 T.sz37 T.ag37 T.ze37 T.fl37_0 T.fl37_1 T.bu37 T.sl41 T.ik41 T.us41 T.sz44 T.by44 T.ag44 T.ze44 T.bu44 T.sz61 T.ag61 T.sl61 T.ar61 T.pt61 T.ik61 T.us61 T.ze61 T.sz66 T.by66 T.ag66 T.ze66 T.fl66_0 T.fl66_1 T.fl66_2 T.fl66_3 T.fl66_4 T.fl66_5 T.fl66_6 T.fl66_7 T.fl66_8 T.bu66 T.sl71 T.ik71 T.us71 T.sz80 T.ag80 T.ze80 T.sl81 T.ik94 T.us94 T.sl96 T.ar96 T.pt96 T.ik96 T.us96 T.sz98 T.ag98 T.sl98 T.ar98 T.pt98 T.ik98 T.us98 T.sz100 T.by100 T.ag100 T.ze100 T.fl100_0 T.fl100_1 T.bu100 T.sz101 T.by101 T.ag101 T.sl101 T.ar101 T.ze101 T.sz103 T.by103 T.ag103 T.ze103 T.fl103_0 T.fl103_1 T.fl103_2 T.fl103_3 T.bu103 T.sl107 T.sl112 T.ik118 T.sl122 T.sz127 T.ag127 T.ze127 T.fl127_0 T.fl127_1 T.bu127 T.sz131 T.by131 T.ag131 T.ik131 T.us131 T.ze131 -- NOREP -- EXTRA=EngZR
section
set_option maxRecDepth 20000
attribute [local go_sem] eqk27' clKnsL clArsL clU32 clNat clBigT clBigC clI clRwC clP2C clP2L clBL clRwL
theorem oneRw (l : List Rw) : ∀ c ∈ l.map RwC, ∀ x ∈ c, oneA x = true := by
  intro c hc x hx
  obtain ⟨r, _, rfl⟩ := List.mem_map.1 hc
  simp at hx
  rcases hx with rfl | rfl | rfl | rfl | rfl | rfl | rfl | rfl | rfl | rfl <;> rfl
theorem clone66 (l : List Rw) (hl : l.length < 2 ^ 30) : NFun Try.prog 66 [.ro 10 (l.map RwC)] 10 (l.map RwC) := by
  refine MFun.toN ?_ ((clRwL l).2 trivial)
  refine MFun.intro 400 [2] mixed Try.func66 (by kernel_rfl) rfl (by rw [Try.results66]; rfl) (Nat.le_of_ble_eq_true rfl) ?_; rw [Try.ntmps66]
  simp -dsimp -implicitDefEqProofs only [go_sem, seval]
  refine AtOp.isnil (d := 103) rfl (by kernel_rfl) (by simp -dsimp -implicitDefEqProofs only [go_sem, seval]; rfl) fun b hb => ?_
  simp -dsimp -implicitDefEqProofs only [go_sem, seval]
  refine ⟨fun h => ?_, fun h => ?_⟩
  · have hl0 : l = [] := by
      cases l with
      | nil => rfl
      | cons x r => exact absurd (hb (by simp)) (by rw [h]; simp)
    subst hl0
    exact FinM.mk0 [] (by simp -dsimp -implicitDefEqProofs only [go_sem, seval]) (by simp -dsimp -implicitDefEqProofs only [go_sem, seval]) (by simp) (by simp [sg])
  · have hl2 : l.length ≤ 274877906944 := by omega
    simp -dsimp -implicitDefEqProofs only [go_sem, seval, List.length_map]
    refine ⟨by omega, oneRw l, FinM.mk0 [(0, 1)] (by simp -dsimp -implicitDefEqProofs only [go_sem, seval]) (by simp -dsimp -implicitDefEqProofs only [go_sem, seval]; exact renL_cl rfl ((clRwL l).2 trivial)) (by simp) (by simp [sg])⟩
theorem pv_mod {n i : Nat} (h : i < n) : (i + n - 1) % n = if i = 0 then n - 1 else i - 1 := by
  split
  · rename_i e; subst e; rw [show 0 + n - 1 = n - 1 by omega, Nat.mod_eq_of_lt (by omega)]
  · rw [show i + n - 1 = i - 1 + n by omega, Nat.add_mod_right, Nat.mod_eq_of_lt (by omega)]
def TcI (g : Nat → Ar) (n i : Nat) (T : List Int) : Prop := T.length = n + 1 ∧ ∀ j, j < i → T.getD j 0 = turnC g n j
theorem tc_step {g : Nat → Ar} {n i : Nat} {T : List Int} (h : TcI g n i T) (hi : i < n) : TcI g n (i + 1) (T.set i (redW ((g i).dir - (g (if i = 0 then n - 1 else i - 1)).dir))) := by
  refine ⟨by rw [List.length_set, h.1], fun j hj => ?_⟩
  rw [getD_setG (by rw [h.1]; omega)]
  by_cases e : i = j
  · subst e; rw [if_pos rfl]; unfold turnC; rw [if_neg (show ¬ i = n by omega)]
    by_cases e : i = 0
    · subst e; simp
    · simp [e]
  · rw [if_neg e]; exact h.2 j (by omega)
theorem tc_end {g : Nat → Ar} {n : Nat} {T : List Int} (hn : 1 ≤ n) (h : TcI g n n T) : TcI g n (n + 1) (T.set n (turnC g n 0)) := by
  refine ⟨by rw [List.length_set, h.1], fun j hj => ?_⟩
  rw [getD_setG (by rw [h.1]; omega)]
  by_cases e : n = j
  · subst e; rw [if_pos rfl]; unfold turnC; rw [if_neg (by omega), if_pos rfl, if_pos rfl]
  · rw [if_neg e]; exact h.2 j (by omega)
def RcI (g : Nat → Ar) (n i : Nat) (R : List Rw) : Prop := R.length = n ∧ ∀ j, j < i → R.getD j zRw = rowC g n j
theorem rc_step {g : Nat → Ar} {n i : Nat} {R : List Rw} (h : RcI g n i R) (hi : i < n) : RcI g n (i + 1) (R.set i (rowC g n i)) := by
  refine ⟨by rw [List.length_set, h.1], fun j hj => ?_⟩
  rw [getD_setG (by rw [h.1]; omega)]
  by_cases e : i = j
  · subst e; rw [if_pos rfl]
  · rw [if_neg e]; exact h.2 j (by omega)
def resL (g : Nat → Ar) (n : Nat) : List Rw := (List.range (n - 1)).map (resF g n)
theorem resL_len (g : Nat → Ar) (n : Nat) : (resL g n).length = n - 1 := by simp [resL]
def rcR (x : Rw) (s : Int) : Rw := ⟨x.a, x.m, x.e, x.r, s⟩
theorem rc_set {g : Nat → Ar} {n : Nat} {R : List Rw} (hn : 2 ≤ n) (h : RcI g n n R) {w0 w2 w1 : Rw} (h0 : w0 = rcR (rowC g n 1) ((rowC g n 1).s - (rowC g n 1).a)) (h2 : w2 = ((R.drop 1).set 0 w0).getD (n - 2) zRw) (h1 : w1 = rcR w2 (w2.s - w2.e)) : ((R.drop 1).set 0 w0).set (n - 2) w1 = resL g n := by
  have hRl := h.1
  have hd : (R.drop 1).length = n - 1 := by rw [List.length_drop, h.1]
  have s0 : ∀ k, (rowC g n k).s = 0 := fun _ => rfl
  have hw2 : w2 = if n = 2 then w0 else rowC g n (n - 1) := by
    rw [h2, getD_setG (by omega)]
    by_cases e : n = 2
    · rw [if_pos e, if_pos (by omega)]
    · rw [if_neg e, if_neg (by omega), getD_drop, h.2 _ (by omega), show 1 + (n - 2) = n - 1 by omega]
  refine List.ext_getElem? fun j => ?_
  by_cases hj : j < n - 1
  · have e : (resL g n)[j]? = some (resF g n j) := by unfold resL; rw [List.getElem?_map, List.getElem?_range hj]; rfl
    rw [e, resF_eq g (by omega), List.getElem?_eq_getElem (by simp; omega)]
    congr 1
    have d : ∀ (L : List Rw) (q : j < L.length), L[j] = L.getD j zRw := fun L q => by simp [List.getD, q]
    rw [d, getD_setG (by simp; omega)]
    by_cases e1 : n - 2 = j
    · rw [if_pos e1, h1, hw2]
      by_cases e2 : n = 2
      · have ej : j = 0 := by omega
        rw [if_pos e2, h0, ej, if_pos rfl, if_pos (by omega)]
        unfold rcR
        simp only [s0, Int.zero_sub, Nat.zero_add]
      · rw [if_neg e2, if_neg (by omega), if_pos (by omega)]
        unfold rcR
        rw [s0, show j + 1 = n - 1 by omega]
    · rw [if_neg e1, getD_setG (by omega)]
      by_cases e2 : 0 = j
      · subst e2
        rw [if_pos rfl, if_pos rfl, if_neg (by omega), h0]
        unfold rcR
        simp only [s0, Int.zero_sub, Int.sub_zero, Nat.zero_add]
      · rw [if_neg e2, getD_drop, h.2 _ (by omega), if_neg (by omega), if_neg (by omega), Nat.add_comm 1 j]
        rfl
  · rw [List.getElem?_eq_none (by simp; omega), List.getElem?_eq_none (by rw [resL_len]; omega)]
theorem fzAr (l : List Ar) (F : Nat → Option Blk) (ns : List Nat) : (l.map ArC).map (fun ch => ch.map (fz F ns)) = l.map ArC := by rw [List.map_map]; rfl
theorem fzI (l : List Int) (F : Nat → Option Blk) (ns : List Nat) : (l.map fun n => [I n]).map (fun ch => ch.map (fz F ns)) = l.map fun n => [I n] := by rw [List.map_map]; rfl
theorem setRc (D : List Rw) (i : Nat) (x : Rw) (s : Int) : (D.map RwC).set i [Bo (decide (x.a < 0)), NatA (dig (x.a.natAbs : Int)), Bo (decide (x.m < 0)), NatA (dig (x.m.natAbs : Int)), Bo (decide (x.e < 0)), NatA (dig (x.e.natAbs : Int)), Bo (decide (x.r < 0)), NatA (dig (x.r.natAbs : Int)), Bo (decide (s < 0)), NatA (dig (s.natAbs : Int))] = (D.set i (rcR x s)).map RwC := by rw [List.map_set]; rfl
theorem resL_fun (g : Nat → Ar) (n : Nat) : (fun i => (resL g n).getD i zRw) = resF g n := by
  funext i
  unfold resL
  by_cases h : i < n - 1
  · simp only [List.getD]; rw [List.getElem?_map, List.getElem?_range h]; rfl
  · simp only [List.getD]; rw [List.getElem?_eq_none (by simp; omega)]
    unfold resF; rw [if_neg (by omega)]; rfl
theorem xs_len (f : Nat → Rw) (n : Nat) : (xs f n).length = n := by simp [xs]
def ThC (g : Nat → Ar) (n i : Nat) : List Int := (List.range (i + 1)).map (theC g n)
theorem thC_len (g : Nat → Ar) (n i : Nat) : (ThC g n i).length = i + 1 := by simp [ThC]
theorem thC_step (g : Nat → Ar) (n i : Nat) : ThC g n (i + 1) = ThC g n i ++ [theC g n (i + 1)] := by unfold ThC; rw [List.range_succ, List.map_append]; rfl
theorem thC_get {g : Nat → Ar} {n i j : Nat} (h : j ≤ i) : (ThC g n i).getD j 0 = theC g n j := by
  unfold ThC
  simp only [List.getD]
  rw [List.getElem?_map, List.getElem?_range (by omega)]; rfl
theorem thC_last {g : Nat → Ar} {n i : Nat} (h : i + 1 < n) : rndW (xE (resF g n) Rw.r (n - 1) i * downW g n + xE (resF g n) Rw.s (n - 1) i * upW g n) (qE (resF g n) (n - 1) * downW g n) = theC g n (i + 1) := by
  unfold theC
  rw [if_neg (by omega), Nat.add_sub_cancel]
theorem thC_app (g : Nat → Ar) (n i : Nat) : ((ThC g n i).map fun n => [I n]) ++ [[I (theC g n (i + 1))]] = (ThC g n (i + 1)).map fun n => [I n] := by rw [thC_step, List.map_append]; rfl
def cycI (g : Nat → Ar) (n i : Nat) : List Ar := (List.range n).map fun k => if k < i then uvA (g k) (theC g n k) (wr (-(turnC g n (k + 1)) - theC g n (k + 1))) else g k
theorem cyc_0 (g : Nat → Ar) (n : Nat) : cycI g n 0 = (List.range n).map g := List.map_congr_left fun k hk => if_neg (Nat.not_lt_zero _)
theorem cyc_len (g : Nat → Ar) (n i : Nat) : (cycI g n i).length = n := by simp [cycI]
theorem cyc_get (g : Nat → Ar) {n i k : Nat} (h : k < n) : (cycI g n i)[k]? = some (if k < i then uvA (g k) (theC g n k) (wr (-(turnC g n (k + 1)) - theC g n (k + 1))) else g k) := by
  unfold cycI
  rw [List.getElem?_map, List.getElem?_range h]; rfl
theorem getCyc (g : Nat → Ar) {n i : Nat} (h : i < n) : ((cycI g n i).map ArC)[i]? = some (ArC (g i)) := by
  rw [List.getElem?_map, cyc_get g h, if_neg (Nat.lt_irrefl _)]; rfl
theorem cyc_set (g : Nat → Ar) {n i : Nat} (h : i < n) : (cycI g n i).set i (uvA (g i) (theC g n i) (wr (-(turnC g n (i + 1)) - theC g n (i + 1)))) = cycI g n (i + 1) := by
  refine List.ext_getElem? fun j => ?_
  by_cases hj : j < n
  · rw [List.getElem?_set, cyc_get g hj, cyc_get g hj, cyc_len]
    by_cases e : i = j
    · subst e; rw [if_pos rfl, if_pos h, if_pos (by omega)]
    · rw [if_neg e]
      by_cases q : j < i
      · rw [if_pos q, if_pos (by omega)]
      · rw [if_neg q, if_neg (by omega)]
  · rw [List.getElem?_eq_none (by rw [List.length_set, cyc_len]; omega), List.getElem?_eq_none (by rw [cyc_len]; omega)]
theorem setCyc (g : Nat → Ar) {n i : Nat} (h : i < n) : ((cycI g n i).map ArC).set i (ArC (uvA (g i) (theC g n i) (wr (-(turnC g n (i + 1)) - theC g n (i + 1))))) = (cycI g n (i + 1)).map ArC := by rw [← List.map_set, cyc_set g h]
set_option maxHeartbeats 8000000 in
theorem whole46 (l : List Ar) (h2 : 2 ≤ l.length) (h3 : l.length ≤ 200) (hok : ∀ k, k < l.length → okG (l.getD k zA)) : MFun Try.prog 46 [.sl 0 0 l.length] [(0, ⟨19, l.map ArC⟩)] 1 none [0] (.t []) [(0, ⟨19, (wholeW l).map ArC⟩)] 1 none := by
  obtain ⟨n, hnn⟩ : ∃ n, n = l.length := ⟨_, rfl⟩
  obtain ⟨g, hg⟩ : ∃ g : Nat → Ar, g = fun i => l.getD i zA := ⟨_, rfl⟩
  have hgi : ∀ k, l.getD k zA = g k := fun k => by rw [hg]
  have hA : ∀ k, k < n → (l.map ArC)[k]? = some (ArC (g k)) := fun k hk => by rw [← hgi]; exact getAr (by omega)
  rw [← hnn] at h2 h3 hok
  simp only [hgi] at hok
  rw [← hnn]
  have hlm : l = (List.range n).map g := by
    refine List.ext_getElem? fun j => ?_
    by_cases hj : j < n
    · rw [List.getElem?_map, List.getElem?_range hj, Option.map_some, ← hgi]; simp [List.getD, show j < l.length by omega]
    · rw [List.getElem?_eq_none (by omega), List.getElem?_eq_none (by simp; omega)]
  have hwh : wholeW l = cycI g n n := by
    unfold wholeW cycI
    rw [← hnn, ← hg]
    refine List.map_congr_left fun k hk => ?_
    rw [if_pos (List.mem_range.1 hk), hgi]
  obtain ⟨LA, hLA⟩ : ∃ LA, LA = l.map ArC := ⟨_, rfl⟩
  have hLA0 : LA = (cycI g n 0).map ArC := by rw [hLA, cyc_0, ← hlm]
  have hlen : LA.length = n := by rw [hLA, List.length_map, hnn]
  rw [hwh]
  rw [← hLA] at hA ⊢
  have clA : ∀ c ∈ LA, ∀ s ∈ c, Cl s := by rw [hLA]; exact (clArsL _).2 trivial
  have w1 : wr (((n : Nat) : Int) + 1) = ((n + 1 : Nat) : Int) := by rw [wr_in] <;> omega
  have c3 : ((n + 1 : Nat) : Int) ≤ 274877906944 := by omega
  have c3' : ((n : Nat) : Int) ≤ 274877906944 := by omega
  have hn0 : ¬ ((n : Nat) : Int) = 0 := by omega
  refine MFun.intro2 400 [] mixed Try.func46 (by kernel_rfl) rfl (by rw [Try.results46]; rfl) (Nat.le_of_ble_eq_true rfl) ?_; rw [Try.ntmps46]
  simp -dsimp -implicitDefEqProofs only [go_sem, seval, w1, c3, Int.natCast_nonneg, Int.toNat_natCast, Int.le_refl]
  refine ⟨{q : Nat × List Int // q.1 ≤ n ∧ TcI g n q.1 q.2}, fun q => ⟨219, tl [(0, .sl 0 0 n), (2, I (n : Nat)), (3, .sl 1 0 (n + 1)), (23, I (n : Nat)), (24, I q.1.1)], [(0, ⟨19, LA⟩), (1, ⟨1, q.1.2.map fun n => [I n]⟩)], 2, ⟨[tl [(0, .sl 0 0 n)]], some (.mp none)⟩⟩, fun q => n - q.1.1,
    ⟨⟨(0, List.replicate (n + 1) 0), Nat.zero_le _, by simp, fun j hj => absurd hj (Nat.not_lt_zero _)⟩, Le.tl (Ls := [[(0, .sl 0 0 n)]]) [] (by simp -dsimp -implicitDefEqProofs only [go_sem, seval]) ?_ (by simp) (by simp [sg]) ⟨by simp -dsimp -implicitDefEqProofs only [go_sem, seval], trivial⟩⟩, fun q => ?_⟩
  · simp -dsimp -implicitDefEqProofs only [go_sem, seval]
    exact ⟨renL_cl rfl clA, renL_cl2 (by rw [List.map_replicate]) ((clI _).2 trivial)⟩
  obtain ⟨⟨i, T⟩, hi2, hT⟩ := q
  simp only at hi2 hT
  simp -dsimp -implicitDefEqProofs only [go_sem, seval]
  refine ⟨fun h9 => ?_, fun h9 => ?_⟩
  · have him : i < n := by omega
    have e1 : wr (((i : Nat) : Int) + (n : Nat)) = ((i + n : Nat) : Int) := by rw [wr_in] <;> omega
    have e2 : wr (((i + n : Nat) : Int) - 1) = ((i + n - 1 : Nat) : Int) := by rw [wr_in] <;> omega
    have e3 : (((i + n - 1 : Nat) : Int)).tmod (n : Int) = (((i + n - 1) % n : Nat) : Int) := tmodN _ _
    rw [pv_mod him] at e3
    obtain ⟨j, hj⟩ : ∃ j, j = if i = 0 then n - 1 else i - 1 := ⟨_, rfl⟩
    have hjn : j < n := by rw [hj]; split <;> omega
    have hst := tc_step hT him
    rw [← hj] at e3 hst
    have e4 : wr ((j : Nat) : Int) = ((j : Nat) : Int) := wr_in (by omega) (by omega)
    have e5 : wr (((i : Nat) : Int) + 1) = ((i + 1 : Nat) : Int) := by rw [wr_in] <;> omega
    have gi := hA i him
    have gj := hA j hjn
    have ci : ((i : Nat) : Int) < ((n : Nat) : Int) := by omega
    have cj : ((j : Nat) : Int) < ((n : Nat) : Int) := by omega
    have ci2 : ((i : Nat) : Int) < ((n + 1 : Nat) : Int) := by omega
    have d1 := hok i him
    have d2 := hok j hjn
    have d11 := d1.d1; have d12 := d1.d2; have d21 := d2.d1; have d22 := d2.d2
    have wd : wr ((g i).dir - (g j).dir) = (g i).dir - (g j).dir := wr_in (by omega) (by omega)
    have hr := reduced64 ((g i).dir - (g j).dir)
    have gT := getI1 (D := T) (i := i) (by rw [hT.1]; omega)
    refine AtCode.draw 20 [([], []), ([], []), ([], []), ([], []), ([2, 3], []), ([2, 3, 4], []), ([2, 3, 4, 5], []), ([], []), ([], []), ([], []), ([8, 9], []), ([8, 9, 10], []), ([], []), ([8, 9, 10, 11, 12], []), ([7, 8, 9, 10, 11, 12, 13], []), ([7, 8, 9, 10, 11, 12, 13, 14], []), ([7, 8, 9, 10, 11, 12, 13, 14, 15], []), ([2, 3, 4, 5, 6, 7, 8, 9, 10, 11, 12, 13, 14, 15, 16], []), ([2, 3, 4, 5, 6, 7, 8, 9, 10, 11, 12, 13, 14, 15, 16, 17], []), ([0, 1, 2, 3, 4, 5, 6, 7, 8, 9, 10, 11, 12, 13, 14, 15, 16, 17, 18], []), ([0, 1, 2, 3, 4, 5, 6, 7, 8, 9, 10, 11, 12, 13, 14, 15, 16, 17, 18, 19], [])] (by kernel_rfl) ?_
    simp -dsimp -implicitDefEqProofs only [go_sem, seval, gi, gj, e1, e2, e3, e4, hn0, ci, cj, wd, Int.natCast_nonneg, Int.toNat_natCast, Nat.zero_add]
    refine QFn.use _ hr (by simp -dsimp -implicitDefEqProofs only [go_sem, seval]) ?_
    simp -dsimp -implicitDefEqProofs only [go_sem, seval, gT, ci2, e5, Int.natCast_nonneg, Int.toNat_natCast, Nat.zero_add, setI1]
    refine ⟨⟨(i + 1, _), by show i + 1 ≤ n; omega, hst⟩, by show n - (i + 1) < n - i; omega, Le.tl (Ls := [[(0, .sl 0 0 n)]]) [] (by simp -dsimp -implicitDefEqProofs only [go_sem, seval, e5]) ?_ (by simp) (by simp [sg]) ⟨by simp -dsimp -implicitDefEqProofs only [go_sem, seval], trivial⟩⟩
    simp -dsimp -implicitDefEqProofs only [go_sem, seval]
    exact ⟨renL_cl rfl clA, renL_cl rfl ((clI _).2 trivial)⟩
  have him : n = i := by omega
  subst him
  have g0 := getI1 (D := T) (i := 0) (by rw [hT.1]; omega)
  rw [hT.2 0 (by omega)] at g0
  have gn := getI1 (D := T) (i := n) (by rw [hT.1]; omega)
  have hT := tc_end (by omega) hT
  obtain ⟨T1, hT1⟩ : ∃ T1, T1 = T.set n (turnC g n 0) := ⟨_, rfl⟩
  rw [← hT1] at hT
  have c0n : (0 : Int) < ((n + 1 : Nat) : Int) := by omega
  have cnn : ((n : Nat) : Int) < ((n + 1 : Nat) : Int) := by omega
  simp -dsimp -implicitDefEqProofs only [go_sem, seval, g0, gn, c0n, cnn, setI1, ← hT1, c3', Int.natCast_nonneg, Int.toNat_natCast, Nat.zero_add, Int.le_refl, show (0 : Int) ≤ 0 by decide]
  have hTn := fun (j : Nat) (hj : j < n + 1) => hT.2 j hj
  have hTl := hT.1
  clear hT
  refine ⟨{q : Nat × List Rw // q.1 ≤ n ∧ RcI g n q.1 q.2}, fun q => ⟨219, tl [(0, .sl 0 0 n), (2, I (n : Nat)), (3, .sl 1 0 (n + 1)), (5, .sl 2 0 n), (57, I (n : Nat)), (58, I q.1.1)], [(0, ⟨19, LA⟩), (1, ⟨1, T1.map fun n => [I n]⟩), (2, ⟨10, q.1.2.map RwC⟩)], 3, ⟨[tl [(0, .sl 0 0 n)]], some (.mp none)⟩⟩, fun q => n - q.1.1,
    ⟨⟨(0, List.replicate n zRw), Nat.zero_le _, by simp, fun j hj => absurd hj (Nat.not_lt_zero _)⟩, Le.trans (Le.hsub 2 (b := ⟨10, _⟩) rfl (repR n)) (Le.tl (Ls := [[(0, .sl 0 0 n)]]) [] (by simp -dsimp -implicitDefEqProofs only [go_sem, seval]) ?_ (by simp) (by simp [sg]) ⟨by simp -dsimp -implicitDefEqProofs only [go_sem, seval], trivial⟩)⟩, fun q => ?_⟩
  · simp -dsimp -implicitDefEqProofs only [go_sem, seval]
    exact ⟨renL_cl rfl clA, renL_cl rfl ((clI _).2 trivial), renL_cl rfl ((clRwL _).2 trivial)⟩
  obtain ⟨⟨i, R⟩, hi2, hR⟩ := q
  simp only at hi2 hR
  simp -dsimp -implicitDefEqProofs only [go_sem, seval]
  refine ⟨fun h9 => ?_, fun h9 => ?_⟩
  · have him : i < n := by omega
    have e1 : wr (((i : Nat) : Int) + (n : Nat)) = ((i + n : Nat) : Int) := by rw [wr_in] <;> omega
    have e2 : wr (((i + n : Nat) : Int) - 1) = ((i + n - 1 : Nat) : Int) := by rw [wr_in] <;> omega
    have e3 : (((i + n - 1 : Nat) : Int)).tmod (n : Int) = (((i + n - 1) % n : Nat) : Int) := tmodN _ _
    rw [pv_mod him] at e3
    have hst := rc_step hR him
    have hrow : rowC g n i = innW (g (if i = 0 then n - 1 else i - 1)) (g i) (turnC g n i) (turnC g n (i + 1)) := rfl
    obtain ⟨j, hj⟩ : ∃ j, j = if i = 0 then n - 1 else i - 1 := ⟨_, rfl⟩
    have hjn : j < n := by rw [hj]; split <;> omega
    rw [← hj] at e3 hrow
    have e4 : wr ((j : Nat) : Int) = ((j : Nat) : Int) := wr_in (by omega) (by omega)
    have e5 : wr (((i : Nat) : Int) + 1) = ((i + 1 : Nat) : Int) := by rw [wr_in] <;> omega
    have gi := hA i him
    have gj := hA j hjn
    have ci : ((i : Nat) : Int) < ((n : Nat) : Int) := by omega
    have cj : ((j : Nat) : Int) < ((n : Nat) : Int) := by omega
    have ci2 : ((i : Nat) : Int) < ((n + 1 : Nat) : Int) := by omega
    have ci3 : ((i + 1 : Nat) : Int) < ((n + 1 : Nat) : Int) := by omega
    have gT := getI1 (D := T1) (i := i) (by omega)
    rw [hTn i (by omega)] at gT
    have gT1 := getI1 (D := T1) (i := i + 1) (by omega)
    rw [hTn (i + 1) (by omega)] at gT1
    have b1 := turnC_b g n i
    have b2 := turnC_b g n (i + 1)
    have o1 := (hok j hjn).ar
    have o2 := (hok i him).ar
    have hin := inner65 (g j) (g i) (turnC g n i) (turnC g n (i + 1)) o1.at_ o1.bt o2.at_ o2.bt o1.far o2.far ⟨by omega, by omega⟩ ⟨by omega, by omega⟩
    rw [← hrow] at hin
    have gR := getRw (D := R) (i := i) (by rw [hR.1]; omega)
    have hset := setR R i (rowC g n i)
    refine AtCode.draw 26 [([], []), ([], []), ([], []), ([], []), ([], []), ([3, 4], []), ([3, 4, 5], []), ([], []), ([3, 4, 5, 6, 7], []), ([2, 3, 4, 5, 6, 7, 8], []), ([2, 3, 4, 5, 6, 7, 8, 9], []), ([], []), ([], []), ([11, 12], []), ([11, 12, 13], []), ([], []), ([], []), ([15, 16], []), ([15, 16, 17], []), ([], []), ([], []), ([20], []), ([19, 20, 21], []), ([19, 20, 21, 22], []), ([2, 3, 4, 5, 6, 7, 8, 9, 10, 11, 12, 13, 14, 15, 16, 17, 18, 19, 20, 21, 22, 23], []), ([0, 1, 2, 3, 4, 5, 6, 7, 8, 9, 10, 11, 12, 13, 14, 15, 16, 17, 18, 19, 20, 21, 22, 23, 24], []), ([0, 1, 2, 3, 4, 5, 6, 7, 8, 9, 10, 11, 12, 13, 14, 15, 16, 17, 18, 19, 20, 21, 22, 23, 24, 25], [])] (by kernel_rfl) ?_
    simp -dsimp -implicitDefEqProofs only [go_sem, seval, gi, gj, gT, gT1, e1, e2, e3, e4, e5, hn0, ci, cj, ci2, ci3, Int.natCast_nonneg, Int.toNat_natCast, Nat.zero_add]
    refine QFn.use _ hin (by simp -dsimp -implicitDefEqProofs only [go_sem, seval]) ?_
    simp -dsimp -implicitDefEqProofs only [go_sem, seval, gR, ci, e5, Int.natCast_nonneg, Int.toNat_natCast, Nat.zero_add]
    simp only [hset]
    refine ⟨⟨(i + 1, R.set i (rowC g n i)), by show i + 1 ≤ n; omega, hst⟩, by show n - (i + 1) < n - i; omega, Le.tl (Ls := [[(0, .sl 0 0 n)]]) [] (by simp -dsimp -implicitDefEqProofs only [go_sem, seval, e5]) ?_ (by simp) (by simp [sg]) ⟨by simp -dsimp -implicitDefEqProofs only [go_sem, seval], trivial⟩⟩
    simp -dsimp -implicitDefEqProofs only [go_sem, seval]
    exact ⟨renL_cl rfl clA, renL_cl rfl ((clI _).2 trivial), renL_cl rfl ((clRwL _).2 trivial)⟩
  have him : n = i := by omega
  subst him
  have hRl := hR.1
  have c1n : (1 : Int) ≤ ((n : Nat) : Int) := by omega
  have tR0 : takeA 0 n (R.map RwC) = R.map RwC := by rw [takeA_eq, List.drop_zero, List.take_of_length_le (by rw [List.length_map]; omega)]
  have tR1 : takeA 1 (n - 1) (R.map RwC) = (R.drop 1).map RwC := by rw [takeA_eq, ← List.map_drop, List.take_of_length_le (by rw [List.length_map, List.length_drop]; omega)]
  have le1 : 1 + (n - 1) ≤ n := by omega
  refine ⟨⟨by omega, Nat.le_refl _⟩, ?_⟩
  refine AtFn.le ⟨219, tl [(0, .sl 0 0 n), (2, I (n : Nat)), (3, .sl 1 0 (n + 1)), (5, .ro 10 (R.map RwC)), (89, .ro 10 ((R.drop 1).map RwC))], [(0, ⟨19, LA⟩), (1, ⟨1, T1.map fun n => [I n]⟩)], 2, ⟨[tl [(0, .sl 0 0 n)]], some (.mp none)⟩⟩ [.ro 10 ((R.drop 1).map RwC)] (Le.ftl (Ls := [[(0, .sl 0 0 n)]]) [2] [] ?_ ?_ (by simp) (by simp [sg]) ⟨by simp -dsimp -implicitDefEqProofs only [go_sem, seval], trivial⟩) (by intro fo xs ts h; cases h; exact ⟨by simp -dsimp -implicitDefEqProofs only [go_sem, seval], by simp -dsimp -implicitDefEqProofs only [go_sem, seval]⟩) ?_
  · simp -dsimp -implicitDefEqProofs only [go_sem, seval, fz, List.length_map, hRl, tR0, tR1, Nat.zero_add, Nat.le_refl, le1]
  · simp -dsimp -implicitDefEqProofs only [go_sem, seval, fzB]
    exact ⟨renL_cl2 (by rw [hLA]; exact fzAr _ _ _) clA, renL_cl2 (fzI _ _ _) ((clI _).2 trivial)⟩
  have hDl : (R.drop 1).length = n - 1 := by rw [List.length_drop, hRl]
  have hD0 : (R.drop 1).getD 0 zRw = rowC g n 1 := by rw [getD_drop]; exact hR.2 1 (by omega)
  refine AtFn.new (clone66 (R.drop 1) (by omega)) ?_
  have hw := fun (w2 : Rw) (h2 : w2 = ((R.drop 1).set 0 (rcR (rowC g n 1) ((rowC g n 1).s - (rowC g n 1).a))).getD (n - 2) zRw) => rc_set (by omega) hR rfl h2 rfl
  obtain ⟨w2, hw2⟩ : ∃ w2, w2 = ((R.drop 1).set 0 (rcR (rowC g n 1) ((rowC g n 1).s - (rowC g n 1).a))).getD (n - 2) zRw := ⟨_, rfl⟩
  have hw := hw w2 hw2
  have B1 := rowC_B hok (show 1 < n by omega)
  have hwB : bd 17 w2.s ∧ bd 17 w2.e := by
    rw [hw2, getD_setG (by omega)]
    split
    · exact ⟨bd_sub B1.s B1.a, bd_mono B1.e (by omega)⟩
    · rw [getD_drop, hR.2 _ (by omega)]
      have B2 := rowC_B hok (show 1 + (n - 2) < n by omega)
      exact ⟨bd_mono B2.s (by omega), bd_mono B2.e (by omega)⟩
  obtain ⟨D, hD⟩ : ∃ D, D = R.drop 1 := ⟨_, rfl⟩
  rw [← hD] at hDl hD0 hw hw2 ⊢
  have gD0 := getRw (D := D) (i := 0) (by omega)
  rw [hD0] at gD0
  have c01 : (0 : Int) < ((n - 1 : Nat) : Int) := by omega
  have wn2 : wr (((n : Nat) : Int) - 2) = ((n - 2 : Nat) : Int) := by rw [wr_in] <;> omega
  have cn2 : ((n - 2 : Nat) : Int) < ((n - 1 : Nat) : Int) := by omega
  have q1 := minus67 (rowC g n 1).s (rowC g n 1).a (bd_sz B1.s (by decide)) (bd_sz B1.a (by decide))
  have q2 := minus67 w2.s w2.e (bd_sz hwB.1 (by decide)) (bd_sz hwB.2 (by decide))
  obtain ⟨x1, hx1⟩ : ∃ x1, x1 = rowC g n 1 := ⟨_, rfl⟩
  rw [← hx1] at gD0 q1 hw hw2
  obtain ⟨D1, hD1⟩ : ∃ D1, D1 = D.set 0 (rcR x1 (x1.s - x1.a)) := ⟨_, rfl⟩
  rw [← hD1] at hw hw2
  have hD1l : D1.length = n - 1 := by rw [hD1, List.length_set, hDl]
  have gD1 := getRw (D := D1) (i := n - 2) (by omega)
  rw [← hw2] at gD1
  simp -dsimp -implicitDefEqProofs only [go_sem, seval, List.length_map, hDl]
  refine AtCode.draw 14 [([], []), ([], []), ([1], []), ([1, 2], []), ([1, 2, 3], []), ([1, 2, 3, 4], []), ([], []), ([6], []), ([6, 7], []), ([6, 7, 8], []), ([1, 2, 3, 4, 5, 6, 7, 8, 9], []), ([0], []), ([0, 11], []), ([0, 1, 2, 3, 4, 5, 6, 7, 8, 9, 10, 11, 12], []), ([0, 1, 2, 3, 4, 5, 6, 7, 8, 9, 10, 11, 12, 13], [])] (by kernel_rfl) ?_
  simp -dsimp -implicitDefEqProofs only [go_sem, seval, gD0, c01, Int.toNat_natCast, Int.natCast_nonneg, Nat.zero_add, show (0 : Int) ≤ 0 by decide, show (1 : Int) < 2 by decide, show (0 : Int) ≤ 1 by decide]
  refine QFn.use _ q1 (by simp -dsimp -implicitDefEqProofs only [go_sem, seval]) ?_
  simp -dsimp -implicitDefEqProofs only [go_sem, seval, gD0, c01, Int.toNat_natCast, Int.natCast_nonneg, Nat.zero_add, show (0 : Int) ≤ 0 by decide]
  simp only [setRc, ← hD1]
  refine AtCode.draw 20 [([], []), ([], []), ([1], []), ([], []), ([], []), ([4], []), ([3, 4, 5], []), ([3, 4, 5, 6], []), ([3, 4, 5, 6, 7], []), ([3, 4, 5, 6, 7, 8], []), ([], []), ([], []), ([11], []), ([10, 11, 12], []), ([10, 11, 12, 13], []), ([10, 11, 12, 13, 14], []), ([3, 4, 5, 6, 7, 8, 9, 10, 11, 12, 13, 14, 15], []), ([0, 1, 2], []), ([0, 1, 2, 17], []), ([0, 1, 2, 3, 4, 5, 6, 7, 8, 9, 10, 11, 12, 13, 14, 15, 16, 17, 18], []), ([0, 1, 2, 3, 4, 5, 6, 7, 8, 9, 10, 11, 12, 13, 14, 15, 16, 17, 18, 19], [])] (by kernel_rfl) ?_
  simp -dsimp -implicitDefEqProofs only [go_sem, seval, gD1, wn2, cn2, Int.toNat_natCast, Int.natCast_nonneg, Nat.zero_add, show (1 : Int) < 2 by decide, show (0 : Int) ≤ 1 by decide]
  refine QFn.use _ q2 (by simp -dsimp -implicitDefEqProofs only [go_sem, seval]) ?_
  simp -dsimp -implicitDefEqProofs only [go_sem, seval, gD1, cn2, Int.toNat_natCast, Int.natCast_nonneg, Nat.zero_add]
  simp only [setRc, hw]
  have E := res_ElB h2 (by omega) hok
  have hel := elim68 (resL g n) (KE (n - 1)) (by rw [resL_fun, resL_len]; exact E)
  rw [resL_fun, resL_len] at hel
  have tRR : takeA 0 (n - 1) ((resL g n).map RwC) = (resL g n).map RwC := by rw [takeA_eq, List.drop_zero, List.take_of_length_le (by rw [List.length_map, resL_len]; omega)]
  refine AtFn.pure hel ?_
  simp -dsimp -implicitDefEqProofs only [go_sem, seval, List.length_map, resL_len, tRR, Nat.zero_add, Nat.le_refl, Int.natCast_nonneg, Int.toNat_natCast, Int.le_refl]
  obtain ⟨K, hK⟩ : ∃ K, K = KE (n - 1) := ⟨_, rfl⟩
  have W := wh_B h2 (by omega) hok
  have hK2 := KE_b (show n - 1 ≤ 300 by omega)
  rw [← hK] at E W hK2
  have hdp := down_pos h2 hok
  obtain ⟨q, hq⟩ : ∃ q, q = qE (resF g n) (n - 1) := ⟨_, rfl⟩
  obtain ⟨X, hX⟩ : ∃ X, X = xs (resF g n) (n - 1) := ⟨_, rfl⟩
  have hXl : X.length = n - 1 := by rw [hX, xs_len]
  have gX : ∀ k, k < n - 1 → (X.map P2C)[k]? = some (P2C (xE (resF g n) Rw.r (n - 1) k, xE (resF g n) Rw.s (n - 1) k)) := fun k hk => by rw [hX]; exact getXs hk
  have gX0 := gX 0 (by omega)
  have gXz := gX (n - 2) (by omega)
  have hup : upW g n = (rowC g n 0).r * q - (rowC g n 0).a * xE (resF g n) Rw.r (n - 1) (n - 2) - (rowC g n 0).e * xE (resF g n) Rw.r (n - 1) 0 := by rw [hq]; rfl
  have hdn : downW g n = (rowC g n 0).m * q + (rowC g n 0).a * xE (resF g n) Rw.s (n - 1) (n - 2) + (rowC g n 0).e * xE (resF g n) Rw.s (n - 1) 0 := by rw [hq]; rfl
  have bq := E.q (n - 1) (Nat.le_refl _)
  have hpq := E.pos (n - 1) (Nat.le_refl _)
  have ba0 := E.xr 0 (by omega)
  have ba1 := E.xs 0 (by omega)
  have bz0 := E.xr (n - 2) (by omega)
  have bz1 := E.xs (n - 2) (by omega)
  have hwl := W.nu
  have hwl1 := W.nu1
  have hwl2 := W.nu2
  have hwq := W.qd
  rw [← hq] at bq hpq hwq
  rw [← hX, ← hq]
  obtain ⟨a0, ha0⟩ : ∃ a0, a0 = xE (resF g n) Rw.r (n - 1) 0 := ⟨_, rfl⟩
  obtain ⟨a1, ha1⟩ : ∃ a1, a1 = xE (resF g n) Rw.s (n - 1) 0 := ⟨_, rfl⟩
  obtain ⟨z0, hz0⟩ : ∃ z0, z0 = xE (resF g n) Rw.r (n - 1) (n - 2) := ⟨_, rfl⟩
  obtain ⟨z1, hz1⟩ : ∃ z1, z1 = xE (resF g n) Rw.s (n - 1) (n - 2) := ⟨_, rfl⟩
  rw [← ha0, ← ha1] at gX0
  rw [← hz0, ← hz1] at gXz
  rw [← ha0, ← hz0] at hup
  rw [← ha1, ← hz1] at hdn
  rw [← ha0] at ba0
  rw [← ha1] at ba1
  rw [← hz0] at bz0
  rw [← hz1] at bz1
  have RB := rowC_B hok (show 0 < n by omega)
  have gR0 := getRw (D := R) (i := 0) (by omega)
  rw [hR.2 0 (by omega)] at gR0
  obtain ⟨r0, hr0⟩ : ∃ r0, r0 = rowC g n 0 := ⟨_, rfl⟩
  rw [← hr0] at gR0 RB hup hdn
  have kk : K < 268435454 - 100 := by omega
  have s1 := bd_sz RB.r (by decide)
  have s2 := bd_sz RB.a (by decide)
  have s3 := bd_sz RB.e (by decide)
  have s4 := bd_sz RB.m (by decide)
  have s5 := bd_sz bq (by omega)
  have m1 := times69 r0.r q s1 s5
  have m2 := times69 r0.a z0 s2 (bd_sz bz0 (by omega))
  have m3 := times69 r0.e a0 s3 (bd_sz ba0 (by omega))
  have m4 := times69 r0.m q s4 s5
  have m5 := times69 r0.a z1 s2 (bd_sz bz1 (by omega))
  have m6 := times69 r0.e a1 s3 (bd_sz ba1 (by omega))
  have u1 := minus67 (r0.r * q) (r0.a * z0) (bd_sz (bd_mul RB.r bq) (by omega)) (bd_sz (bd_mul RB.a bz0) (by omega))
  have u2 := minus67 (r0.r * q - r0.a * z0) (r0.e * a0) (bd_sz (bd_sub (bd_mul RB.r bq) (bd_mul RB.a bz0)) (by omega)) (bd_sz (bd_mul RB.e ba0) (by omega))
  have v1 := plus70 (r0.m * q) (r0.a * z1) (bd_sz (bd_mul RB.m bq) (by omega)) (bd_sz (bd_mul RB.a bz1) (by omega))
  have v2 := plus70 (r0.m * q + r0.a * z1) (r0.e * a1) (bd_sz (bd_add (bd_mul RB.m bq) (bd_mul RB.a bz1)) (by omega)) (bd_sz (bd_mul RB.e ba1) (by omega))
  rw [← hup] at u2
  rw [← hdn] at v2
  have t0 := rnd71 (K := 2 * K + 20) hdp W.up W.dn hK2
  have ht0 : rndW (upW g n) (downW g n) = theC g n 0 := by unfold theC; rw [if_pos (.inl rfl)]
  rw [ht0] at t0
  have hth : ∀ k, k < n - 1 → PFun Try.prog 71 [BigA (xE (resF g n) Rw.r (n - 1) k * downW g n + xE (resF g n) Rw.s (n - 1) k * upW g n), BigA (q * downW g n)] (I (theC g n (k + 1))) := fun k hk => by
    have := rnd71 (K := 2 * K + 20) (Int.mul_pos hpq hdp) (hwl k hk) hwq hK2
    have e := thC_last (g := g) (n := n) (i := k) (by omega)
    rw [← hq] at e
    rw [e] at this
    exact this
  obtain ⟨U, hU⟩ : ∃ U, U = upW g n := ⟨_, rfl⟩
  obtain ⟨V, hV⟩ : ∃ V, V = downW g n := ⟨_, rfl⟩
  have bU := W.up
  have bV := W.dn
  rw [← hU] at u2 t0 hth hwl hwl2 bU
  rw [← hV] at v2 t0 hth hwl hwl1 hwq bV
  refine AtCode.le ⟨219, tl [(0, .sl 0 0 n), (2, I (n : Nat)), (3, .sl 1 0 (n + 1)), (5, .ro 10 (R.map RwC)), (8, P2s X), (9, .ptr 2 0 0)], [(0, ⟨19, LA⟩), (1, ⟨1, T1.map fun n => [I n]⟩), (2, ⟨2, [BigC q]⟩)], 3, ⟨[tl [(0, .sl 0 0 n)]], some (.mp none)⟩⟩ (Le.tl (Ls := [[(0, .sl 0 0 n)]]) [(2, 37)] (by simp -dsimp -implicitDefEqProofs only [go_sem, seval]) ?_ (by simp) (by simp [sg]) ⟨by simp -dsimp -implicitDefEqProofs only [go_sem, seval], trivial⟩) ?_
  · simp -dsimp -implicitDefEqProofs only [go_sem, seval]
    exact ⟨renL_cl rfl clA, renL_cl rfl ((clI _).2 trivial), renL_cl rfl (clB1 _)⟩
  have c0n' : (0 : Int) < ((n : Nat) : Int) := by omega
  have cx0 : (0 : Int) < (((X.map P2C).length : Nat) : Int) := by rw [List.length_map, hXl]; exact c01
  refine AtCode.drawB 10 [([], []), ([0], []), ([0, 1], []), ([], [11]), ([], [11]), ([4], [11]), ([3, 4, 5], [11]), ([3, 4, 5, 6], [11]), ([], []), ([], []), ([0, 1, 2, 8, 9], []), ([0, 1, 2, 3, 4, 5, 6, 7, 8, 9, 10], [])] [false, true] (by kernel_rfl) ?_
  simp -dsimp -implicitDefEqProofs only [go_sem, seval, gX0, gXz, c01, wn2, cn2, List.length_map, hXl, Int.toNat_natCast, Int.natCast_nonneg, Nat.zero_add, show (0 : Int) ≤ 0 by decide]
  refine ⟨by kernel_rfl, ?_⟩
  refine AtCode.draw 24 [([], []), ([0], []), ([0, 1], []), ([0, 1, 2], []), ([0, 1, 2, 3], []), ([], []), ([0, 1, 2, 3, 4, 5], []), ([], []), ([7], []), ([7, 8], []), ([7, 8, 9], []), ([], []), ([11], []), ([0, 1, 2, 3, 4, 5, 6, 7, 8, 9, 10, 11, 12], []), ([0, 1, 2, 3, 4, 5, 6, 7, 8, 9, 10, 11, 12, 13], []), ([], []), ([15], []), ([15, 16], []), ([15, 16, 17], []), ([], []), ([19], []), ([0, 1, 2, 3, 4, 5, 6, 7, 8, 9, 10, 11, 12, 13, 14, 15, 16, 17, 18, 19, 20], []), ([0, 1, 2, 3, 4, 5, 6, 7, 8, 9, 10, 11, 12, 13, 14, 15, 16, 17, 18, 19, 20, 21], []), ([], []), ([0, 1, 2, 3, 4, 5, 6, 7, 8, 9, 10, 11, 12, 13, 14, 15, 16, 17, 18, 19, 20, 21, 22, 23], [])] (by kernel_rfl) ?_
  simp -dsimp -implicitDefEqProofs only [go_sem, seval, gR0, c0n', List.length_map, hRl, Int.toNat_natCast, Int.natCast_nonneg, Nat.zero_add, show (0 : Int) ≤ 0 by decide, show (0 : Int) < 2 by decide]
  refine QFn.use _ m1 (by simp -dsimp -implicitDefEqProofs only [go_sem, seval]) ?_
  simp -dsimp -implicitDefEqProofs only [go_sem, seval, gR0, c0n', List.length_map, hRl, Int.toNat_natCast, Int.natCast_nonneg, Nat.zero_add, show (0 : Int) ≤ 0 by decide, show (0 : Int) < 2 by decide, show (0 : Int) ≤ 1 by decide, show (1 : Int) < 2 by decide]
  refine QFn.use _ m2 (by simp -dsimp -implicitDefEqProofs only [go_sem, seval]) ?_
  simp -dsimp -implicitDefEqProofs only [go_sem, seval, gR0, c0n', List.length_map, hRl, Int.toNat_natCast, Int.natCast_nonneg, Nat.zero_add, show (0 : Int) ≤ 0 by decide, show (0 : Int) < 2 by decide, show (0 : Int) ≤ 1 by decide, show (1 : Int) < 2 by decide]
  refine QFn.use _ u1 (by simp -dsimp -implicitDefEqProofs only [go_sem, seval]) ?_
  simp -dsimp -implicitDefEqProofs only [go_sem, seval, gR0, c0n', List.length_map, hRl, Int.toNat_natCast, Int.natCast_nonneg, Nat.zero_add, show (0 : Int) ≤ 0 by decide, show (0 : Int) < 2 by decide, show (0 : Int) ≤ 1 by decide, show (1 : Int) < 2 by decide]
  refine QFn.use _ m3 (by simp -dsimp -implicitDefEqProofs only [go_sem, seval]) ?_
  simp -dsimp -implicitDefEqProofs only [go_sem, seval, gR0, c0n', List.length_map, hRl, Int.toNat_natCast, Int.natCast_nonneg, Nat.zero_add, show (0 : Int) ≤ 0 by decide, show (0 : Int) < 2 by decide, show (0 : Int) ≤ 1 by decide, show (1 : Int) < 2 by decide]
  refine QFn.use _ u2 (by simp -dsimp -implicitDefEqProofs only [go_sem, seval]) ?_
  simp -dsimp -implicitDefEqProofs only [go_sem, seval, gR0, c0n', List.length_map, hRl, Int.toNat_natCast, Int.natCast_nonneg, Nat.zero_add, show (0 : Int) ≤ 0 by decide, show (0 : Int) < 2 by decide, show (0 : Int) ≤ 1 by decide, show (1 : Int) < 2 by decide]
  refine AtCode.draw 23 [([], []), ([0], []), ([0, 1], []), ([0, 1, 2], []), ([], []), ([0, 1, 2, 3, 4], []), ([], []), ([6], []), ([6, 7], []), ([6, 7, 8], []), ([], []), ([10], []), ([0, 1, 2, 3, 4, 5, 6, 7, 8, 9, 10, 11], []), ([0, 1, 2, 3, 4, 5, 6, 7, 8, 9, 10, 11, 12], []), ([], []), ([14], []), ([14, 15], []), ([14, 15, 16], []), ([], []), ([18], []), ([0, 1, 2, 3, 4, 5, 6, 7, 8, 9, 10, 11, 12, 13, 14, 15, 16, 17, 18, 19], []), ([0, 1, 2, 3, 4, 5, 6, 7, 8, 9, 10, 11, 12, 13, 14, 15, 16, 17, 18, 19, 20], []), ([], []), ([0, 1, 2, 3, 4, 5, 6, 7, 8, 9, 10, 11, 12, 13, 14, 15, 16, 17, 18, 19, 20, 21, 22], [])] (by kernel_rfl) ?_
  simp -dsimp -implicitDefEqProofs only [go_sem, seval, gR0, c0n', List.length_map, hRl, Int.toNat_natCast, Int.natCast_nonneg, Nat.zero_add, show (0 : Int) ≤ 0 by decide, show (0 : Int) < 2 by decide, show (0 : Int) ≤ 1 by decide, show (1 : Int) < 2 by decide]
  refine QFn.use _ m4 (by simp -dsimp -implicitDefEqProofs only [go_sem, seval]) ?_
  simp -dsimp -implicitDefEqProofs only [go_sem, seval, gR0, c0n', List.length_map, hRl, Int.toNat_natCast, Int.natCast_nonneg, Nat.zero_add, show (0 : Int) ≤ 0 by decide, show (0 : Int) < 2 by decide, show (0 : Int) ≤ 1 by decide, show (1 : Int) < 2 by decide]
  refine QFn.use _ m5 (by simp -dsimp -implicitDefEqProofs only [go_sem, seval]) ?_
  simp -dsimp -implicitDefEqProofs only [go_sem, seval, gR0, c0n', List.length_map, hRl, Int.toNat_natCast, Int.natCast_nonneg, Nat.zero_add, show (0 : Int) ≤ 0 by decide, show (0 : Int) < 2 by decide, show (0 : Int) ≤ 1 by decide, show (1 : Int) < 2 by decide]
  refine QFn.use _ v1 (by simp -dsimp -implicitDefEqProofs only [go_sem, seval]) ?_
  simp -dsimp -implicitDefEqProofs only [go_sem, seval, gR0, c0n', List.length_map, hRl, Int.toNat_natCast, Int.natCast_nonneg, Nat.zero_add, show (0 : Int) ≤ 0 by decide, show (0 : Int) < 2 by decide, show (0 : Int) ≤ 1 by decide, show (1 : Int) < 2 by decide]
  refine QFn.use _ m6 (by simp -dsimp -implicitDefEqProofs only [go_sem, seval]) ?_
  simp -dsimp -implicitDefEqProofs only [go_sem, seval, gR0, c0n', List.length_map, hRl, Int.toNat_natCast, Int.natCast_nonneg, Nat.zero_add, show (0 : Int) ≤ 0 by decide, show (0 : Int) < 2 by decide, show (0 : Int) ≤ 1 by decide, show (1 : Int) < 2 by decide]
  refine QFn.use _ v2 (by simp -dsimp -implicitDefEqProofs only [go_sem, seval]) ?_
  simp -dsimp -implicitDefEqProofs only [go_sem, seval, gR0, c0n', List.length_map, hRl, Int.toNat_natCast, Int.natCast_nonneg, Nat.zero_add, show (0 : Int) ≤ 0 by decide, show (0 : Int) < 2 by decide, show (0 : Int) ≤ 1 by decide, show (1 : Int) < 2 by decide]
  refine AtFn.pure0 t0 ?_
  simp -dsimp -implicitDefEqProofs only [go_sem, seval, List.length_map, hXl]
  refine ⟨{i : Nat // i ≤ n - 1}, fun i => ⟨219, tl [(0, .sl 0 0 n), (3, .sl 1 0 (n + 1)), (9, .ptr 2 0 0), (12, .ptr 3 0 0), (13, .ptr 4 0 0), (14, .sl 5 0 (i.1 + 1)), (187, P2s X), (188, I ((n - 1 : Nat) : Int)), (189, I i.1)], [(0, ⟨19, LA⟩), (1, ⟨1, T1.map fun n => [I n]⟩), (2, ⟨2, [BigC q]⟩), (3, ⟨2, [BigC U]⟩), (4, ⟨2, [BigC V]⟩), (5, ⟨1, (ThC g n i.1).map fun n => [I n]⟩)], 6, ⟨[tl [(0, .sl 0 0 n)]], some (.mp none)⟩⟩, fun i => n - 1 - i.1,
    ⟨⟨0, Nat.zero_le _⟩, Le.tl (Ls := [[(0, .sl 0 0 n)]]) [(3, 36), (4, 59), (5, 60)] (by simp -dsimp -implicitDefEqProofs only [go_sem, seval]) ?_ (by simp) (by simp [sg]) ⟨by simp -dsimp -implicitDefEqProofs only [go_sem, seval], trivial⟩⟩, fun i => ?_⟩
  · simp -dsimp -implicitDefEqProofs only [go_sem, seval]
    exact ⟨renL_cl rfl clA, renL_cl rfl ((clI _).2 trivial), renL_cl rfl (clB1 _), renL_cl rfl (clB1 _), renL_cl rfl (clB1 _), renL_cl2 rfl ((clI _).2 trivial)⟩
  obtain ⟨i, hi⟩ := i
  simp -dsimp -implicitDefEqProofs only [go_sem, seval]
  refine ⟨fun h12 => ?_, fun h12 => ?_⟩
  · have him : i < n - 1 := by omega
    have e4 : wr (((i : Nat) : Int) + 1) = ((i + 1 : Nat) : Int) := by rw [wr_in] <;> omega
    have ci : ((i : Nat) : Int) < ((n - 1 : Nat) : Int) := by omega
    have gXi := gX i him
    have bc0 := E.xr i him
    have bc1 := E.xs i him
    have hti := hth i him
    have w1' := hwl i him
    have w2' := hwl1 i him
    have w3' := hwl2 i him
    obtain ⟨c0, hc0⟩ : ∃ c0, c0 = xE (resF g n) Rw.r (n - 1) i := ⟨_, rfl⟩
    obtain ⟨c1, hc1⟩ : ∃ c1, c1 = xE (resF g n) Rw.s (n - 1) i := ⟨_, rfl⟩
    rw [← hc0, ← hc1] at gXi hti w1'
    rw [← hc0] at bc0 w2'
    rw [← hc1] at bc1 w3'
    have k1 := times69 c0 V (bd_sz bc0 (by omega)) (bd_sz bV (by omega))
    have k2 := times69 c1 U (bd_sz bc1 (by omega)) (bd_sz bU (by omega))
    have k3 := plus70 (c0 * V) (c1 * U) (bd_sz w2' (by omega)) (bd_sz w3' (by omega))
    have k4 := times69 q V (bd_sz bq (by omega)) (bd_sz bV (by omega))
    have f1 : takeA 0 (i + 1) ((ThC g n i).map fun n => [I n]) = (ThC g n i).map fun n => [I n] := by rw [takeA_eq, List.drop_zero, List.take_of_length_le (by rw [List.length_map, thC_len]; exact Nat.le_refl _)]
    have f2 := thC_app g n i
    have f4 : i + 1 ≤ ((ThC g n i).map fun n => [I n]).length := by rw [List.length_map, thC_len]; exact Nat.le_refl _
    have f5 : ((ThC g n i).map fun n => [I n]).length ≤ 274877906943 := by rw [List.length_map, thC_len]; omega
    have f3 : ((ThC g n (i + 1)).map fun n => [I n]).length = i + 1 + 1 := by rw [List.length_map, thC_len]
    simp -dsimp -implicitDefEqProofs only [go_sem, seval, gXi, ci, Int.toNat_natCast, Int.natCast_nonneg, Nat.zero_add]
    refine AtCode.draw 15 [([], []), ([], []), ([1], []), ([], []), ([1, 2, 3], []), ([], []), ([5], []), ([], []), ([1, 2, 3, 4, 5, 6, 7], []), ([1, 2, 3, 4, 5, 6, 7, 8], []), ([], []), ([], []), ([1, 2, 3, 4, 5, 6, 7, 8, 9, 10, 11], []), ([1, 2, 3, 4, 5, 6, 7, 8, 9, 10, 11, 12], []), ([1, 2, 3, 4, 5, 6, 7, 8, 9, 10, 11, 12, 13], []), ([0, 1, 2, 3, 4, 5, 6, 7, 8, 9, 10, 11, 12, 13, 14], []), ([0, 1, 2, 3, 4, 5, 6, 7, 8, 9, 10, 11, 12, 13, 14, 15], [])] (by kernel_rfl) ?_
    simp -dsimp -implicitDefEqProofs only [go_sem, seval, show (0 : Int) ≤ 0 by decide, show (0 : Int) < 2 by decide, show (0 : Int) ≤ 1 by decide, show (1 : Int) < 2 by decide]
    refine QFn.use _ k1 (by simp -dsimp -implicitDefEqProofs only [go_sem, seval]) ?_
    simp -dsimp -implicitDefEqProofs only [go_sem, seval]
    refine QFn.use _ k2 (by simp -dsimp -implicitDefEqProofs only [go_sem, seval]) ?_
    simp -dsimp -implicitDefEqProofs only [go_sem, seval]
    refine QFn.use _ k3 (by simp -dsimp -implicitDefEqProofs only [go_sem, seval]) ?_
    simp -dsimp -implicitDefEqProofs only [go_sem, seval]
    refine QFn.use _ k4 (by simp -dsimp -implicitDefEqProofs only [go_sem, seval]) ?_
    simp -dsimp -implicitDefEqProofs only [go_sem, seval]
    refine QFn.use _ hti (by simp -dsimp -implicitDefEqProofs only [go_sem, seval]) ?_
    simp -dsimp -implicitDefEqProofs only [go_sem, seval, Int.toNat_natCast, Int.natCast_nonneg, Nat.zero_add, f1, f4, f5, f2, f3, e4]
    refine ⟨⟨i + 1, by omega⟩, by show n - 1 - (i + 1) < n - 1 - i; omega, Le.tl (Ls := [[(0, .sl 0 0 n)]]) [(5, 22)] (by simp -dsimp -implicitDefEqProofs only [go_sem, seval]) ?_ (by simp) (by simp [sg]) ⟨by simp -dsimp -implicitDefEqProofs only [go_sem, seval], trivial⟩⟩
    simp -dsimp -implicitDefEqProofs only [go_sem, seval]
    exact ⟨renL_cl rfl clA, renL_cl rfl ((clI _).2 trivial), renL_cl rfl (clB1 _), renL_cl rfl (clB1 _), renL_cl rfl (clB1 _), renL_cl rfl ((clI _).2 trivial)⟩
  have him : n - 1 = i := by omega
  subst him
  have e1 : n - 1 + 1 = n := by omega
  have gt0 := getI1 (D := ThC g n (n - 1)) (i := 0) (by rw [thC_len]; omega)
  rw [thC_get (Nat.zero_le _)] at gt0
  have f1 : takeA 0 n ((ThC g n (n - 1)).map fun n => [I n]) = (ThC g n (n - 1)).map fun n => [I n] := by rw [takeA_eq, List.drop_zero, List.take_of_length_le (by rw [List.length_map, thC_len]; omega)]
  have f2 := thC_app g n (n - 1)
  rw [e1, show theC g n n = theC g n 0 by unfold theC; rw [if_pos (.inr rfl), if_pos (.inl rfl)]] at f2
  have f4 : n ≤ ((ThC g n (n - 1)).map fun n => [I n]).length := by rw [List.length_map, thC_len]; omega
  have f5 : ((ThC g n (n - 1)).map fun n => [I n]).length ≤ 274877906943 := by rw [List.length_map, thC_len]; omega
  have f3 : ((ThC g n n).map fun n => [I n]).length = n + 1 := by rw [List.length_map, thC_len]
  simp -dsimp -implicitDefEqProofs only [go_sem, seval, e1, gt0, c0n', f1, f2, f3, f4, f5, Int.toNat_natCast, Int.natCast_nonneg, Nat.zero_add, show (0 : Int) ≤ 0 by decide]
  obtain ⟨S, hS⟩ : ∃ S, S = ThC g n n := ⟨_, rfl⟩
  have hSl : S.length = n + 1 := by rw [hS, thC_len]
  have hSj : ∀ j, j ≤ n → S.getD j 0 = theC g n j := fun j hj => by rw [hS]; exact thC_get hj
  rw [← hS]
  refine AtFn.inl 400 [] mixed Try.func72 (by kernel_rfl) rfl (by rw [Try.results72]; rfl) (Nat.le_of_ble_eq_true rfl) ?_; rw [Try.ntmps72]
  simp -dsimp -implicitDefEqProofs only [go_sem, seval]
  refine ⟨{i : Nat // i ≤ n}, fun i => ⟨37, tl [(0, .sl 0 0 n), (1, .sl 2 0 (n + 1)), (2, .sl 1 0 (n + 1)), (8, I (n : Nat)), (9, I i.1)], [(0, ⟨19, (cycI g n i.1).map ArC⟩), (1, ⟨1, T1.map fun n => [I n]⟩), (2, ⟨1, S.map fun n => [I n]⟩)], 3, ⟨[tl [], tl [(0, .sl 0 0 n)]], some (.mp none)⟩⟩, fun i => n - i.1,
    ⟨⟨0, Nat.zero_le _⟩, Le.tl (Ls := [[], [(0, .sl 0 0 n)]]) [(2, 7)] (by simp -dsimp -implicitDefEqProofs only [go_sem, seval]) ?_ (by simp) (by simp [sg]) ⟨by simp -dsimp -implicitDefEqProofs only [go_sem, seval], by simp -dsimp -implicitDefEqProofs only [go_sem, seval], trivial⟩⟩, fun i => ?_⟩
  · simp -dsimp -implicitDefEqProofs only [go_sem, seval]
    exact ⟨renL_cl2 hLA0 ((clArsL _).2 trivial), renL_cl rfl ((clI _).2 trivial), renL_cl rfl ((clI _).2 trivial)⟩
  obtain ⟨i, hi⟩ := i
  simp -dsimp -implicitDefEqProofs only [go_sem, seval]
  refine ⟨fun h12 => ?_, fun h12 => ?_⟩
  · have him : i < n := by omega
    have e4 : wr (((i : Nat) : Int) + 1) = ((i + 1 : Nat) : Int) := by rw [wr_in] <;> omega
    have ci : ((i : Nat) : Int) < ((n : Nat) : Int) := by omega
    have ci2 : ((i : Nat) : Int) < ((n + 1 : Nat) : Int) := by omega
    have ci3 : ((i + 1 : Nat) : Int) < ((n + 1 : Nat) : Int) := by omega
    have gM := getCyc g him
    have gSi := getI1 (D := S) (i := i) (by omega)
    rw [hSj i (by omega)] at gSi
    have gSi1 := getI1 (D := S) (i := i + 1) (by omega)
    rw [hSj (i + 1) (by omega)] at gSi1
    have gTi1 := getI1 (D := T1) (i := i + 1) (by omega)
    rw [hTn (i + 1) (by omega)] at gTi1
    have bt := turnC_b g n (i + 1)
    have ntt : wr (0 - turnC g n (i + 1)) = -(turnC g n (i + 1)) := by rw [wr_in (by omega) (by omega)]; omega
    have hst := setCyc g him
    have gset : ∀ X, (((cycI g n i).map ArC).set i X)[i]? = some X := fun X => by
      rw [List.getElem?_set_self (by have := (List.getElem?_eq_some_iff.1 gM).1; exact this)]
    refine AtCode.drawB 22 [([], []), ([], []), ([], [0]), ([], [0]), ([], []), ([], []), ([4, 5], []), ([4, 5, 6], []), ([], []), ([], []), ([9], []), ([8, 9, 10], []), ([8, 9, 10, 11], []), ([8, 9, 10, 11, 12], [0]), ([], []), ([], []), ([15], []), ([14, 15, 16], []), ([14, 15, 16, 17], []), ([8, 9, 10, 11, 12, 13, 14, 15, 16, 17, 18], [0]), ([0, 1, 4, 5, 6, 7, 8, 9, 10, 11, 12, 14, 15, 16, 17, 18], []), ([0, 1, 4, 5, 6, 7, 8, 9, 10, 11, 12, 14, 15, 16, 17, 18, 20], []), ([0, 1, 4, 5, 6, 7, 8, 9, 10, 11, 12, 14, 15, 16, 17, 18, 20, 21], []), ([0, 1, 2, 3, 4, 5, 6, 7, 8, 9, 10, 11, 12, 13, 14, 15, 16, 17, 18, 19, 20, 21, 22], []), ([0, 1, 2, 3, 4, 5, 6, 7, 8, 9, 10, 11, 12, 13, 14, 15, 16, 17, 18, 19, 20, 21, 22, 23], []), ([0, 1, 2, 3, 4, 5, 6, 7, 8, 9, 10, 11, 12, 13, 14, 15, 16, 17, 18, 19, 20, 21, 22, 23, 24], [])] [false, true, true, true] (by kernel_rfl) ?_
    simp -dsimp -implicitDefEqProofs only [go_sem, seval, gM, gset, gSi, gSi1, gTi1, ntt, e4, ci, ci2, ci3, Int.natCast_nonneg, Int.toNat_natCast, Nat.zero_add, List.set_set]
    refine ⟨by kernel_rfl, ?_⟩
    refine ⟨⟨i + 1, by omega⟩, by show n - (i + 1) < n - i; omega, Le.tl (Ls := [[], [(0, .sl 0 0 n)]]) [] (by simp -dsimp -implicitDefEqProofs only [go_sem, seval, e4]) ?_ (by simp) (by simp [sg]) ⟨by simp -dsimp -implicitDefEqProofs only [go_sem, seval], by simp -dsimp -implicitDefEqProofs only [go_sem, seval], trivial⟩⟩
    simp -dsimp -implicitDefEqProofs only [go_sem, seval]
    exact ⟨renL_cl2 hst ((clArsL _).2 trivial), renL_cl rfl ((clI _).2 trivial), renL_cl rfl ((clI _).2 trivial)⟩
  have him : n = i := by omega
  subst him
  have hne0 : LA ≠ [] := by intro e; rw [e] at hlen; simp at hlen; omega
  have hne1 : (cycI g n n).map ArC ≠ [] := by intro e; have := congrArg List.length e; simp [cyc_len] at this; omega
  refine FinM2.mkv [] [(0, .sl 0 0 n)] ?_ ?_ ?_ ?_ ?_
  · simp -dsimp -implicitDefEqProofs only [go_sem, seval]
    exact renL_cl rfl ((clArsL _).2 trivial)
  · simp
  · simp [sg]
  · simp -dsimp -implicitDefEqProofs only [go_sem, seval]
  · simp only [List.mem_singleton, forall_eq]
    exact ⟨0, 0, n - 1, _, _, by rw [Nat.sub_add_cancel (by omega)]; rfl, by rw [Nat.sub_add_cancel (by omega)]; simp -dsimp -implicitDefEqProofs only [go_sem, seval], rfl, rfl, rfl, hne0, hne1⟩
end

section
set_option maxRecDepth 20000
attribute [local go_sem] eqk27' clKnsL clArsL
set_option maxHeartbeats 4000000 in
theorem solve27w (l : List Ar) (h2 : 2 ≤ l.length) (h3 : l.length ≤ 200) (hok : ∀ k, k < l.length → okG (l.getD k zA)) (hc : ∀ i, i < l.length → cycP l i = true) :
    MFun Try.prog 27 [.sl 0 0 l.length, Bo true] [(0, ⟨19, l.map ArC⟩)] 1 none [0] (.t []) [(0, ⟨19, (wholeW l).map ArC⟩)] 1 none := by
  have hwh := whole46 l h2 h3 hok
  have hwl : (wholeW l).length = l.length := by simp [wholeW]
  have hn0 : ¬ ((l.length : Nat) : Int) = 0 := by omega
  refine MFun.intro2 400 [] mixed Try.func27 (by kernel_rfl) rfl (by rw [Try.results27]; rfl) (Nat.le_of_ble_eq_true rfl) ?_; rw [Try.ntmps27]
  simp -dsimp -implicitDefEqProofs only [go_sem, seval]
  refine ⟨{i : Nat // i ≤ l.length}, fun i => ⟨93, tl [(0, .sl 0 0 l.length), (1, Bo true), (4, I (l.length : Nat)), (5, I i.1)], [(0, ⟨19, l.map ArC⟩)], 1, ⟨[tl [(0, .sl 0 0 l.length)]], some (.mp none)⟩⟩, fun i => l.length - i.1,
    ⟨⟨0, by omega⟩, Le.tl (Ls := [[(0, .sl 0 0 l.length)]]) [] (by simp -dsimp -implicitDefEqProofs only [go_sem, seval]) ?_ (by simp) (by simp [sg]) ⟨by simp -dsimp -implicitDefEqProofs only [go_sem, seval], trivial⟩⟩, fun i => ?_⟩
  · simp -dsimp -implicitDefEqProofs only [go_sem, seval]
    exact renL_cl rfl ((clArsL _).2 trivial)
  obtain ⟨i, hi⟩ := i
  by_cases hil : i < l.length
  · have c1 : (i : Int) < ((l.length : Nat) : Int) := by omega
    have hjl : (i + l.length - 1) % l.length < l.length := Nat.mod_lt _ (by omega)
    have hgi := getAr (l := l) (i := i) hil
    have hgj := getAr hjl
    have e1 : wr ((i : Int) + (l.length : Nat)) = ((i + l.length : Nat) : Int) := by rw [wr_in] <;> omega
    have e2 : wr (((i + l.length : Nat) : Int) - 1) = ((i + l.length - 1 : Nat) : Int) := by rw [wr_in] <;> omega
    have e3 : (((i + l.length - 1 : Nat) : Int)).tmod (l.length : Int) = (((i + l.length - 1) % l.length : Nat) : Int) := tmodN _ _
    have e4 : wr (((i + l.length - 1) % l.length : Nat) : Int) = (((i + l.length - 1) % l.length : Nat) : Int) := wr_in (by omega) (by omega)
    have hgo := goes45 (l.getD ((i + l.length - 1) % l.length) zA) (l.getD i zA)
    have hcy := hc i hil
    unfold cycP at hcy
    rw [hcy] at hgo
    obtain ⟨j, hj⟩ : ∃ j, j = (i + l.length - 1) % l.length := ⟨_, rfl⟩
    rw [← hj] at hjl hgj e3 e4 hgo
    have c2 : (j : Int) < ((l.length : Nat) : Int) := by omega
    have e5 : wr ((i : Int) + 1) = ((i + 1 : Nat) : Int) := by rw [wr_in] <;> omega
    simp -dsimp -implicitDefEqProofs only [go_sem, seval]
    refine AtCode.draw 19 [([], []), ([], []), ([0, 1], []), ([0, 1, 2], []), ([0, 1, 2, 3], []), ([0, 1, 2, 3], []), ([0, 1, 2, 3], []), ([0, 1, 2, 3, 5, 6], []), ([0, 1, 2, 3, 5, 6, 7], []), ([0, 1, 2, 3], []), ([0, 1, 2, 3, 5, 6, 7, 8, 9], []), ([0, 1, 2, 3, 4, 5, 6, 7, 8, 9, 10], []), ([0, 1, 2, 3, 4, 5, 6, 7, 8, 9, 10, 11], []), ([0, 1, 2, 3], []), ([0, 1, 2, 3], []), ([0, 1, 2, 3, 13, 14], []), ([0, 1, 2, 3, 13, 14, 15], []), ([0, 1, 2, 3, 4, 5, 6, 7, 8, 9, 10, 11, 12, 13, 14, 15, 16], []), ([0, 1, 2, 3, 4, 5, 6, 7, 8, 9, 10, 11, 12, 13, 14, 15, 16, 17], [])] (by kernel_rfl) ?_
    simp -dsimp -implicitDefEqProofs only [go_sem, seval, c1, c2, e1, e2, e3, e4, hn0, Int.toNat_natCast, Int.natCast_nonneg, hgi, hgj, Nat.zero_add]
    refine QFn.use _ hgo (by simp -dsimp -implicitDefEqProofs only [go_sem, seval]) ?_
    simp -dsimp -implicitDefEqProofs only [go_sem, seval]
    refine ⟨⟨i + 1, by omega⟩, by show l.length - (i + 1) < l.length - i; omega, Le.tl (Ls := [[(0, .sl 0 0 l.length)]]) [] (by simp -dsimp -implicitDefEqProofs only [go_sem, seval, e5]) ?_ (by simp) (by simp [sg]) ⟨by simp -dsimp -implicitDefEqProofs only [go_sem, seval], trivial⟩⟩
    simp -dsimp -implicitDefEqProofs only [go_sem, seval]
    exact renL_cl rfl ((clArsL _).2 trivial)
  · have c1 : ¬ (i : Int) < ((l.length : Nat) : Int) := by omega
    have c2 : (i : Int) = ((l.length : Nat) : Int) := by omega
    simp -dsimp -implicitDefEqProofs only [go_sem, seval]
    refine AtCode.draw 19 [([], []), ([], []), ([0, 1], []), ([0, 1, 2], []), ([0, 1, 2, 3], []), ([0, 1, 2, 3], []), ([0, 1, 2, 3], []), ([0, 1, 2, 3, 5, 6], []), ([0, 1, 2, 3, 5, 6, 7], []), ([0, 1, 2, 3], []), ([0, 1, 2, 3, 5, 6, 7, 8, 9], []), ([0, 1, 2, 3, 4, 5, 6, 7, 8, 9, 10], []), ([0, 1, 2, 3, 4, 5, 6, 7, 8, 9, 10, 11], []), ([0, 1, 2, 3], []), ([0, 1, 2, 3], []), ([0, 1, 2, 3, 13, 14], []), ([0, 1, 2, 3, 13, 14, 15], []), ([0, 1, 2, 3, 4, 5, 6, 7, 8, 9, 10, 11, 12, 13, 14, 15, 16], []), ([0, 1, 2, 3, 4, 5, 6, 7, 8, 9, 10, 11, 12, 13, 14, 15, 16, 17], [])] (by kernel_rfl) ?_
    have c3 : ¬ ((l.length : Nat) : Int) < ((l.length : Nat) : Int) := by omega
    simp -dsimp -implicitDefEqProofs only [go_sem, seval, c2, c3]
    refine AtFn.le ⟨93, tl [(0, .sl 0 0 l.length), (36, .sl 0 0 l.length)], [(0, ⟨19, l.map ArC⟩)], 1, ⟨[tl [(0, .sl 0 0 l.length)]], some (.mp none)⟩⟩ [.sl 0 0 l.length] (Le.tl (Ls := [[(0, .sl 0 0 l.length)]]) [] (by simp -dsimp -implicitDefEqProofs only [go_sem, seval]) ?_ (by simp) (by simp [sg]) ⟨by simp -dsimp -implicitDefEqProofs only [go_sem, seval], trivial⟩) (by intro fo xs ts h; cases h; exact ⟨by simp -dsimp -implicitDefEqProofs only [go_sem, seval], by simp -dsimp -implicitDefEqProofs only [go_sem, seval]⟩) ?_
    · simp -dsimp -implicitDefEqProofs only [go_sem, seval]
      exact renL_cl rfl ((clArsL _).2 trivial)
    refine AtFn.m' (h0 := [(0, ⟨19, l.map ArC⟩)]) (hr := []) (k' := 1) id hwh (MOk.id (Ls := [[(0, .sl 0 0 l.length)]]) (by simp) (by simp -dsimp -implicitDefEqProofs only [go_sem, seval, id_eq]) ?_ (by simp -dsimp -implicitDefEqProofs only [go_sem, seval, id_eq]) (by simp -dsimp -implicitDefEqProofs only [go_sem, seval, id_eq]) ?_ (by simp) ?_ (.cl (by simp [Cl_t])) (by simp) (by simp) (by simp)) ?_
    · simp -dsimp -implicitDefEqProofs only [go_sem, seval, id_eq]
      exact renL_cl rfl ((clArsL _).2 trivial)
    · simp -dsimp -implicitDefEqProofs only [go_sem, seval, id_eq]
    · simp -dsimp -implicitDefEqProofs only [go_sem, seval, id_eq]
      exact renL_cl rfl ((clArsL _).2 trivial)
    have hne : l.map ArC ≠ [] := by intro e; have := congrArg List.length e; simp at this; rw [this] at h2; simp at h2
    have hne2 : (wholeW l).map ArC ≠ [] := by intro e; have := congrArg List.length e; rw [List.length_map, hwl] at this; have e0 : l.length = 0 := this; omega
    simp -dsimp -implicitDefEqProofs only [go_sem, seval]
    refine FinM2.mkv [] [(0, .sl 0 0 l.length)] ?_ ?_ ?_ ?_ ?_
    · simp -dsimp -implicitDefEqProofs only [go_sem, seval]
      exact renL_cl rfl ((clArsL _).2 trivial)
    · simp
    · simp [sg]
    · simp -dsimp -implicitDefEqProofs only [go_sem, seval]
    · simp only [List.mem_singleton, forall_eq]
      exact ⟨0, 0, l.length - 1, _, _, by rw [Nat.sub_add_cancel (by omega)]; rfl, by rw [Nat.sub_add_cancel (by omega)]; simp -dsimp -implicitDefEqProofs only [go_sem, seval], rfl, rfl, rfl, hne, hne2⟩
theorem slv_whole {l : List Kn} (hv : validK l true = true) (hpos : 1 ≤ segs l true) (hc : ∀ i, i < (arcs0 l true).length → cycP (arcs0 l true) i = true) : Slv l true (wholeW (arcs0 l true)) := by
  have hsg := valid_segs hv
  have hA := arcs0_All hv
  have hal := arcs0_len l true
  have free : ∀ i, i < (arcs0 l true).length → ((arcs0 l true).getD i zA).a.op ≠ 3 := fun i hi => (goes_is (hc i hi)).2.1
  have h2 : 2 ≤ (arcs0 l true).length := by
    refine Decidable.byContradiction fun h => ?_
    have e1 : segs l true = 1 := by omega
    have el : l.length = 1 := e1
    have f0 := free 0 (by omega)
    have S := settled_F hv
    have a0 := (arc_f (settledW l true) 0).a
    rw [arcs0_get (by omega), a0] at f0
    have := S.far 0 (by omega) f0
    rw [el] at this
    exact this ⟨rfl, rfl⟩
  refine ⟨by simp [wholeW, hal], ?_, hpos⟩
  have := solve27w (arcs0 l true) h2 (by omega) (fun k hk => hA.ok k hk (free k hk)) hc
  rwa [hal] at this
end

section
set_option maxRecDepth 20000
def inU (r : Ar) : Prop := (-9223372036854775808 ≤ r.u ∧ r.u ≤ 9223372036854775807) ∧ (-9223372036854775808 ≤ r.v ∧ r.v ≤ 9223372036854775807)
structure ArS (q r : Ar) : Prop where
  fx : r.fx = q.fx
  fy : r.fy = q.fy
  tx : r.tx = q.tx
  ty : r.ty = q.ty
  a : r.a = q.a
  b : r.b = q.b
  iu : inU q → inU r
theorem ArS.rfl' (q : Ar) : ArS q q := ⟨rfl, rfl, rfl, rfl, rfl, rfl, id⟩
def ArL (l r : List Ar) : Prop := r.length = l.length ∧ ∀ k, k < l.length → ArS (l.getD k zA) (r.getD k zA)
theorem ArL.app {l l' r r' : List Ar} (h1 : ArL l r) (h2 : ArL l' r') : ArL (l ++ l') (r ++ r') := by
  refine ⟨by rw [List.length_append, List.length_append, h1.1, h2.1], fun k hk => ?_⟩
  rw [List.length_append] at hk
  simp only [List.getD]
  by_cases h : k < l.length
  · rw [List.getElem?_append_left h, List.getElem?_append_left (by rw [h1.1]; exact h)]
    exact h1.2 k h
  · rw [List.getElem?_append_right (by omega), List.getElem?_append_right (by rw [h1.1]; omega), h1.1]
    exact h2.2 (k - l.length) (by omega)
theorem wr_in64 (a : Int) : -9223372036854775808 ≤ wr a ∧ wr a ≤ 9223372036854775807 := ⟨wr_lo a, wr_hi a⟩
theorem st_S (mid : List Ar) : ArL mid (mid.map stW) := by
  refine ⟨by simp, fun k hk => ?_⟩
  have e : (mid.map stW).getD k zA = stW (mid.getD k zA) := by simp [List.getD, hk]
  rw [e]
  exact ⟨rfl, rfl, rfl, rfl, rfl, rfl, id⟩
theorem open_S (mid : List Ar) : ArL mid (openW mid) := by
  refine ⟨by simp [openW], fun k hk => ?_⟩
  have e : (openW mid).getD k zA = uvA (mid.getD k zA) (theF (fun i => mid.getD i zA) mid.length k) (wr (-(turnF (fun i => mid.getD i zA) mid.length (k + 1)) - theF (fun i => mid.getD i zA) mid.length (k + 1))) := by
    unfold openW
    simp only [List.getD]
    rw [List.getElem?_map, List.getElem?_range hk]; rfl
  rw [e]
  exact ⟨rfl, rfl, rfl, rfl, rfl, rfl, fun _ => ⟨wr_in64 _, wr_in64 _⟩⟩
theorem whole_S (l : List Ar) : ArL l (wholeW l) := by
  refine ⟨by simp [wholeW], fun k hk => ?_⟩
  have e : (wholeW l).getD k zA = uvA (l.getD k zA) (theC (fun i => l.getD i zA) l.length k) (wr (-(turnC (fun i => l.getD i zA) l.length (k + 1)) - theC (fun i => l.getD i zA) l.length (k + 1))) := by
    unfold wholeW
    simp only [List.getD]
    rw [List.getElem?_map, List.getElem?_range hk]; rfl
  rw [e]
  refine ⟨rfl, rfl, rfl, rfl, rfl, rfl, fun _ => ⟨?_, wr_in64 _⟩⟩
  show -9223372036854775808 ≤ theC _ _ _ ∧ theC _ _ _ ≤ 9223372036854775807
  unfold theC
  split <;> exact wr_in64 _
theorem refl_L (l : List Ar) : ArL l l := ⟨rfl, fun k _ => ArS.rfl' _⟩
theorem stretch_S (mid : List Ar) : ArL mid (stretchW mid) := by
  unfold stretchW
  split
  · exact refl_L _
  · split
    · exact st_S _
    · exact open_S _
theorem str_S : ∀ (f : Nat) (L : List Ar), L.length ≤ f → ArL L (strN f L)
  | 0, L, h => by
    have : L = [] := List.eq_nil_of_length_eq_zero (by omega)
    subst this; exact refl_L _
  | _ + 1, [], _ => refl_L _
  | f + 1, x :: xs, h => by
    simp only [List.length_cons] at h
    have ih := str_S f (xs.drop (chainN x xs)) (by rw [List.length_drop]; omega)
    have := (stretch_S (x :: xs.take (chainN x xs))).app ih
    rw [List.cons_append, List.take_append_drop] at this
    exact this
theorem rot_S {l : List Ar} {b : Nat} (hb : b ≤ l.length) : ArL l (rotW l b) := by
  have hs := str_S l.length (l.drop b ++ l.take b) (by simp; omega)
  have hl : (l.drop b ++ l.take b).length = l.length := by simp; omega
  unfold rotW
  obtain ⟨R, hR⟩ : ∃ R, R = strN l.length (l.drop b ++ l.take b) := ⟨_, rfl⟩
  rw [← hR] at hs ⊢
  have hRl : R.length = l.length := by rw [hs.1, hl]
  refine ⟨by simp; omega, fun k hk => ?_⟩
  have e := rot_get (l := R) (b := l.length - b) (i := k) (by omega) (by omega)
  rw [hRl] at e
  rw [e]
  have q := hs.2 (if l.length - b + k < l.length then l.length - b + k else l.length - b + k - l.length) (by rw [hl]; split <;> omega)
  rw [rot_get hb (by split <;> omega)] at q
  have e2 : (if b + (if l.length - b + k < l.length then l.length - b + k else l.length - b + k - l.length) < l.length then b + (if l.length - b + k < l.length then l.length - b + k else l.length - b + k - l.length) else b + (if l.length - b + k < l.length then l.length - b + k else l.length - b + k - l.length) - l.length) = k := by
    split <;> split <;> omega
  rw [e2] at q
  exact q
theorem begW_le (l : List Ar) : begW l ≤ l.length := by have := (begI_F (cycP l) l.length 0).1.2; unfold begW; omega
theorem solve_S (l : List Ar) (c : Bool) : ArL l (solveW l c) := by
  unfold solveW
  split
  · split
    · exact whole_S l
    · exact rot_S (begW_le l)
  · exact rot_S (Nat.zero_le _)
theorem solve_ok {l : List Kn} {c : Bool} (hv : validK l c = true) : ∀ r ∈ solveW (arcs0 l c) c, ArOk r := by
  intro r hr
  obtain ⟨k, hk, rfl⟩ := List.getElem_of_mem hr
  have S := solve_S (arcs0 l c) c
  rw [S.1] at hk
  have e : (solveW (arcs0 l c) c)[k] = (solveW (arcs0 l c) c).getD k zA := by simp [List.getD, S.1, hk]
  rw [e]
  obtain ⟨s1, s2, s3, s4, s5, s6, s7⟩ := S.2 k hk
  have hk' : k < segs l c := by rwa [arcs0_len] at hk
  have hl := (valid_len hv).1
  have hb := settled_b (c := c) (valid_b hv) (by omega)
  have F := arc_f (settledW l c) k
  rw [← arcs0_get hk'] at F
  have hil : k < (settledW l c).length := by rw [settled_len]; have := segs_le (l := l) (c := c); omega
  have hjl : (k + 1) % (settledW l c).length < (settledW l c).length := Nat.mod_lt _ (by omega)
  have b1 := (hb k hil).1
  have b2 := (hb _ hjl).1
  rw [← F.fx, ← F.fy] at b1
  rw [← F.tx, ← F.ty] at b2
  have hu : inU ((arcs0 l c).getD k zA) := ⟨by rw [F.u]; omega, by rw [F.v]; omega⟩
  obtain ⟨u1, u2⟩ := s7 hu
  refine ⟨by rw [s1, s2]; exact b1, by rw [s3, s4]; exact b2, ?_, u1, u2⟩
  rw [s5, s6]
  by_cases h3 : ((arcs0 l c).getD k zA).a.op = 3
  · exact .inl h3
  · have := (arcs0_All hv).ok k hk h3
    exact .inr ⟨this.a1, this.a2, this.b1, this.b2⟩
theorem slvG {l : List Kn} {c : Bool} (hv : validK l c = true) (hpos : 1 ≤ segs l c) : Slv l c (solveW (arcs0 l c) c) := by
  have hsg := valid_segs hv
  have hA := arcs0_All hv
  have hal := arcs0_len l c
  have str : ∀ b, ((c = false ∧ b = 0) ∨ (c = true ∧ b < (arcs0 l c).length ∧ cycP (arcs0 l c) b = false)) → Str ((arcs0 l c).drop b ++ (arcs0 l c).take b) (strN (arcs0 l c).length ((arcs0 l c).drop b ++ (arcs0 l c).take b)) := by
    intro b hb
    have hbl : b ≤ (arcs0 l c).length := by rcases hb with h | h <;> omega
    have hl : ((arcs0 l c).drop b ++ (arcs0 l c).take b).length = (arcs0 l c).length := by simp; omega
    exact str_of _ _ (by omega) (by omega) (rot_Lk hA hb)
  unfold solveW
  cases c with
  | false =>
    rw [if_neg (by decide)]
    exact Slv.of hsg hpos ⟨0, _, .inl ⟨rfl, rfl⟩, str 0 (.inl ⟨rfl, rfl⟩), rfl⟩
  | true =>
    rw [if_pos rfl]
    have B := begI_F (cycP (arcs0 l true)) (arcs0 l true).length 0
    by_cases hw : begW (arcs0 l true) = (arcs0 l true).length
    · rw [if_pos hw]
      exact slv_whole hv hpos fun i hi => B.2.1 i (Nat.zero_le _) (by have : begI (cycP (arcs0 l true)) (arcs0 l true).length 0 = (arcs0 l true).length := hw; omega)
    · rw [if_neg hw]
      have hle := begW_le (arcs0 l true)
      have hf : cycP (arcs0 l true) (begW (arcs0 l true)) = false := B.2.2 (by have : begI (cycP (arcs0 l true)) (arcs0 l true).length 0 = begW (arcs0 l true) := rfl; omega)
      exact Slv.of hsg hpos ⟨begW (arcs0 l true), _, .inr ⟨rfl, by omega, fun i hi => B.2.1 i (Nat.zero_le _) hi, hf⟩, str _ (.inr ⟨rfl, by omega, hf⟩), rfl⟩
end

section
set_option maxRecDepth 20000
attribute [local go_sem] eqk27' clKnsL clArsL clUvR clPtsT clPtsR eqk44'
theorem solve_nil (c : Bool) : solveW [] c = [] := by cases c <;> rfl
theorem chooseG {l : List Kn} {c : Bool} (hv : validK l c = true) : PFun Try.prog 13 [Kns l, Bo c] (chR ((l.getD 0 zK).x, (l.getD 0 zK).y) (segs l c) c (solveW (arcs0 l c) c)) := by
  by_cases h : segs l c = 0
  · have a := choose13_0 l c hv h
    have e : arcs0 l c = [] := arcs0_nil h
    rw [e, solve_nil]
    exact a
  · exact choose13 l c _ hv (slvG hv (by omega)) (solve_ok hv)
structure PtF (l : List Kn) (c : Bool) (pts : List (Int × Int)) : Prop where
  len : pts.length = if c then 3 * segs l c else 3 * segs l c + 1
  pt : ∀ k, k < l.length → pts[3 * k]? = some ((l.getD k zK).x, (l.getD k zK).y)
  fx : ∀ k, k < segs l c → (l.getD k zK).l.op = 3 → pts[3 * k + 1]? = some ((l.getD k zK).l.x, (l.getD k zK).l.y) ∧ pts[3 * k + 2]? = some ((l.getD ((k + 1) % l.length) zK).c.x, (l.getD ((k + 1) % l.length) zK).c.y)
end

section
set_option maxRecDepth 20000
def zc (l : List Kn) (j : Nat) : Prop := (l.getD j zK).l.op ≠ 3 ∧ samePt (l.getD j zK) (l.getD (j + 1) zK)
instance (l : List Kn) (j : Nat) : Decidable (zc l j) := by unfold zc; infer_instance
theorem s1N_at (l : List Kn) : ∀ i, i + 1 ≤ l.length → ∀ j, j < l.length → (s1N i l).getD j zK = ⟨(l.getD j zK).x, (l.getD j zK).y, if 1 ≤ j ∧ j ≤ i ∧ zc l (j - 1) then fixS (l.getD j zK).x (l.getD j zK).y else (l.getD j zK).c, if j < i ∧ zc l j then fixS (l.getD (j + 1) zK).x (l.getD (j + 1) zK).y else (l.getD j zK).l⟩
  | 0, _, j, hj => by
    rw [if_neg (by omega), if_neg (by omega)]; rfl
  | i + 1, hi, j, hj => by
    have ih := s1N_at l i (by omega)
    obtain ⟨L, hL⟩ : ∃ L, L = s1N i l := ⟨_, rfl⟩
    have hl : L.length = l.length := by rw [hL, s1N_len]
    rw [← hL] at ih
    have hi1 : (i + 1) % l.length = i + 1 := Nat.mod_eq_of_lt (by omega)
    have ei := ih i (by omega)
    have ei1 := ih (i + 1) (by omega)
    rw [if_neg (show ¬ (i < i ∧ zc l i) by omega)] at ei
    have hz : s1C L i ↔ zc l i := by
      unfold s1C zc samePt
      rw [hl, hi1, ei, ei1]
    show (s1 (s1N i l) i).getD j zK = _
    rw [← hL]
    by_cases hc : s1C L i
    · have hz' := hz.1 hc
      rw [s1_gt (by omega) (by omega) hc, hl, hi1, ih j hj, ei1]
      by_cases e1 : i + 1 = j
      · subst e1
        rw [if_pos rfl, if_neg (show ¬ i = i + 1 by omega), if_pos (show 1 ≤ i + 1 ∧ i + 1 ≤ i + 1 ∧ zc l (i + 1 - 1) from ⟨by omega, by omega, by rw [Nat.add_sub_cancel]; exact hz'⟩), if_neg (show ¬ (i + 1 < i ∧ zc l (i + 1)) by omega), if_neg (show ¬ (i + 1 < i + 1 ∧ zc l (i + 1)) by omega)]
      · rw [if_neg e1]
        by_cases e2 : i = j
        · subst e2
          rw [if_pos rfl, if_pos (show i < i + 1 ∧ zc l i from ⟨by omega, hz'⟩)]
          have q : (1 ≤ i ∧ i ≤ i ∧ zc l (i - 1)) ↔ (1 ≤ i ∧ i ≤ i + 1 ∧ zc l (i - 1)) := ⟨fun h => ⟨h.1, by omega, h.2.2⟩, fun h => ⟨h.1, by omega, h.2.2⟩⟩
          simp only [q]
        · rw [if_neg e2]
          have q : (1 ≤ j ∧ j ≤ i ∧ zc l (j - 1)) ↔ (1 ≤ j ∧ j ≤ i + 1 ∧ zc l (j - 1)) := ⟨fun h => ⟨h.1, by omega, h.2.2⟩, fun h => ⟨h.1, by omega, h.2.2⟩⟩
          have q2 : (j < i ∧ zc l j) ↔ (j < i + 1 ∧ zc l j) := ⟨fun h => ⟨by omega, h.2⟩, fun h => ⟨by omega, h.2⟩⟩
          simp only [q, q2]
    · have hz' := fun h => hc (hz.2 h)
      rw [s1_not hc, ih j hj]
      have q : (1 ≤ j ∧ j ≤ i ∧ zc l (j - 1)) ↔ (1 ≤ j ∧ j ≤ i + 1 ∧ zc l (j - 1)) := by
        refine ⟨fun h => ⟨h.1, by omega, h.2.2⟩, fun h => ⟨h.1, ?_, h.2.2⟩⟩
        refine Decidable.byContradiction fun g => hz' ?_
        have : j - 1 = i := by omega
        rw [← this]; exact h.2.2
      have q2 : (j < i ∧ zc l j) ↔ (j < i + 1 ∧ zc l j) := by
        refine ⟨fun h => ⟨by omega, h.2⟩, fun h => ⟨?_, h.2⟩⟩
        refine Decidable.byContradiction fun g => hz' ?_
        have : j = i := by omega
        rw [← this]; exact h.2
      simp only [q, q2]
theorem settled_at {l : List Kn} {j : Nat} (hj : j < l.length) : (settledW l false).getD j zK = if j = 0 ∨ j + 1 = l.length then ⟨((s1N (l.length - 1) l).getD j zK).x, ((s1N (l.length - 1) l).getD j zK).y, if j + 1 = l.length then opnW ((s1N (l.length - 1) l).getD j zK).c else ((s1N (l.length - 1) l).getD j zK).c, if j = 0 then opnW ((s1N (l.length - 1) l).getD j zK).l else ((s1N (l.length - 1) l).getD j zK).l⟩ else s2 ((s1N (l.length - 1) l).getD j zK) := by
  unfold settledW
  have es : segs l false = l.length - 1 := rfl
  rw [es]
  obtain ⟨L, hL⟩ : ∃ L, L = s1N (l.length - 1) l := ⟨_, rfl⟩
  have hl : L.length = l.length := by rw [hL, s1N_len]
  rw [← hL, ← hl]
  have g := s2N_get false L L.length (Nat.le_refl _) j (by omega)
  rw [s3_get _ (by rw [s2N_len]; omega), s2N_len]
  by_cases sk : j = 0 ∨ j + 1 = L.length
  · rw [if_neg (fun h => h.2 ⟨rfl, sk⟩)] at g
    rw [if_pos sk, g]
  · rw [if_pos ⟨by omega, fun h => sk h.2⟩] at g
    rw [if_neg sk, g, if_neg (fun h => sk (.inr h)), if_neg (fun h => sk (.inl h))]
theorem arcW_congr {l m : List Kn} {i j : Nat} (h1 : (l.getD i zK).x = (m.getD j zK).x) (h2 : (l.getD i zK).y = (m.getD j zK).y) (h3 : (l.getD i zK).l = (m.getD j zK).l) (h4 : (l.getD ((i + 1) % l.length) zK).x = (m.getD ((j + 1) % m.length) zK).x) (h5 : (l.getD ((i + 1) % l.length) zK).y = (m.getD ((j + 1) % m.length) zK).y) (h6 : (l.getD ((i + 1) % l.length) zK).c = (m.getD ((j + 1) % m.length) zK).c) : arcW l i = arcW m j := by
  unfold arcW
  simp only [h1, h2, h3, h4, h5, h6]
structure Cut (l : List Kn) (k : Nat) : Prop where
  k1 : 1 ≤ k
  k2 : k + 2 ≤ l.length
  c : (l.getD k zK).c.op ≠ 0
  l : (l.getD k zK).l.op ≠ 0
theorem like_not {o s : Sd} {x y : Int} (h : o.op ≠ 0) : likeW o s x y = o := by unfold likeW; rw [if_neg h]
theorem opn_not {o : Sd} (h : o.op ≠ 0) : opnW o = o := by unfold opnW; rw [if_neg h]
theorem takeK {l : List Kn} {n j : Nat} (h : j < n) : (l.take n).getD j zK = l.getD j zK := getD_take h zK
theorem settled_A {l : List Kn} {k : Nat} (h : Cut l k) : ∀ j, j ≤ k → ((settledW (l.take (k + 1)) false).getD j zK).x = ((settledW l false).getD j zK).x ∧ ((settledW (l.take (k + 1)) false).getD j zK).y = ((settledW l false).getD j zK).y ∧ (j < k → ((settledW (l.take (k + 1)) false).getD j zK).l = ((settledW l false).getD j zK).l) ∧ (1 ≤ j → ((settledW (l.take (k + 1)) false).getD j zK).c = ((settledW l false).getD j zK).c) := by
  intro j hj
  obtain ⟨k1, k2, kc, kl⟩ := h
  have hAl : (l.take (k + 1)).length = k + 1 := by simp; omega
  have eA := settled_at (l := l.take (k + 1)) (j := j) (by omega)
  have eL := settled_at (l := l) (j := j) (by omega)
  have gA := s1N_at (l.take (k + 1)) k (by omega) j (by omega)
  have gL := s1N_at l (l.length - 1) (by omega) j (by omega)
  rw [hAl, Nat.add_sub_cancel] at eA
  have hg : ∀ i, i ≤ k → (l.take (k + 1)).getD i zK = l.getD i zK := fun i hi => takeK (by omega)
  have hzc : ∀ i, i < k → (zc (l.take (k + 1)) i ↔ zc l i) := fun i hi => by unfold zc; rw [hg i (by omega), hg (i + 1) (by omega)]
  have xA : ((s1N k (l.take (k + 1))).getD j zK).x = ((s1N (l.length - 1) l).getD j zK).x := by rw [gA, gL]; simp only [hg j hj]
  have yA : ((s1N k (l.take (k + 1))).getD j zK).y = ((s1N (l.length - 1) l).getD j zK).y := by rw [gA, gL]; simp only [hg j hj]
  have cA : ((s1N k (l.take (k + 1))).getD j zK).c = ((s1N (l.length - 1) l).getD j zK).c := by
    rw [gA, gL]
    simp only [hg j hj]
    have q : (1 ≤ j ∧ j ≤ k ∧ zc (l.take (k + 1)) (j - 1)) ↔ (1 ≤ j ∧ j ≤ l.length - 1 ∧ zc l (j - 1)) :=
      ⟨fun h => ⟨h.1, by omega, (hzc (j - 1) (by omega)).1 h.2.2⟩, fun h => ⟨h.1, by omega, (hzc (j - 1) (by omega)).2 h.2.2⟩⟩
    simp only [q]
  have lA : j < k → ((s1N k (l.take (k + 1))).getD j zK).l = ((s1N (l.length - 1) l).getD j zK).l := by
    intro hjk
    rw [gA, gL]
    simp only [hg j hj, hg (j + 1) (by omega)]
    have q : (j < k ∧ zc (l.take (k + 1)) j) ↔ (j < l.length - 1 ∧ zc l j) :=
      ⟨fun h => ⟨by omega, (hzc j hjk).1 h.2⟩, fun h => ⟨hjk, (hzc j hjk).2 h.2⟩⟩
    simp only [q]
  have cop : j = k → ((s1N (l.length - 1) l).getD j zK).c.op ≠ 0 := by
    intro e
    rw [gL]
    show (if _ then _ else _ : Sd).op ≠ 0
    split
    · show (3 : Int) ≠ 0; decide
    · rw [e]; exact kc
  by_cases j0 : j = 0
  · rw [if_pos (.inl j0), if_neg (show ¬ j + 1 = k + 1 by omega), if_pos j0] at eA
    rw [if_pos (.inl j0), if_neg (show ¬ j + 1 = l.length by omega), if_pos j0] at eL
    rw [eA, eL, xA, yA, lA (by omega), cA]
    exact ⟨rfl, rfl, fun _ => rfl, fun _ => rfl⟩
  · rw [if_neg (show ¬ (j = 0 ∨ j + 1 = l.length) by omega)] at eL
    by_cases jk : j = k
    · rw [if_pos (.inr (by omega)), if_pos (by omega), if_neg j0] at eA
      rw [eA, eL, xA, yA, cA]
      refine ⟨rfl, rfl, fun h => by omega, fun _ => ?_⟩
      show opnW _ = likeW _ _ _ _
      rw [opn_not (cop jk), like_not (cop jk)]
    · rw [if_neg (show ¬ (j = 0 ∨ j + 1 = k + 1) by omega)] at eA
      have e : (s1N k (l.take (k + 1))).getD j zK = (s1N (l.length - 1) l).getD j zK := by
        have h1 := lA (by omega)
        revert xA yA cA h1
        generalize (s1N k (l.take (k + 1))).getD j zK = u
        generalize (s1N (l.length - 1) l).getD j zK = v
        intro x y c l
        cases u; cases v
        simp only at x y c l
        rw [x, y, c, l]
      rw [eA, eL, e]
      exact ⟨rfl, rfl, fun _ => rfl, fun _ => rfl⟩
theorem settled_B {l : List Kn} {k : Nat} (h : Cut l k) : ∀ j, j + k < l.length → ((settledW (l.drop k) false).getD j zK).x = ((settledW l false).getD (k + j) zK).x ∧ ((settledW (l.drop k) false).getD j zK).y = ((settledW l false).getD (k + j) zK).y ∧ (j + k + 1 < l.length → ((settledW (l.drop k) false).getD j zK).l = ((settledW l false).getD (k + j) zK).l) ∧ (1 ≤ j → ((settledW (l.drop k) false).getD j zK).c = ((settledW l false).getD (k + j) zK).c) := by
  intro j hj
  obtain ⟨k1, k2, kc, kl⟩ := h
  have hBl : (l.drop k).length = l.length - k := List.length_drop
  have eB := settled_at (l := l.drop k) (j := j) (by omega)
  have eL := settled_at (l := l) (j := k + j) (by omega)
  have gB := s1N_at (l.drop k) (l.length - k - 1) (by omega) j (by omega)
  have gL := s1N_at l (l.length - 1) (by omega) (k + j) (by omega)
  rw [hBl] at eB
  have hg : ∀ i, (l.drop k).getD i zK = l.getD (k + i) zK := fun i => getD_drop _ _ _ _
  have hzc : ∀ i, (zc (l.drop k) i ↔ zc l (k + i)) := fun i => by unfold zc; rw [hg i, hg (i + 1)]; exact Iff.rfl
  have xB : ((s1N (l.length - k - 1) (l.drop k)).getD j zK).x = ((s1N (l.length - 1) l).getD (k + j) zK).x := by rw [gB, gL]; simp only [hg j]
  have yB : ((s1N (l.length - k - 1) (l.drop k)).getD j zK).y = ((s1N (l.length - 1) l).getD (k + j) zK).y := by rw [gB, gL]; simp only [hg j]
  have cB : 1 ≤ j → ((s1N (l.length - k - 1) (l.drop k)).getD j zK).c = ((s1N (l.length - 1) l).getD (k + j) zK).c := by
    intro hj1
    rw [gB, gL]
    simp only [hg j]
    have q : (1 ≤ j ∧ j ≤ l.length - k - 1 ∧ zc (l.drop k) (j - 1)) ↔ (1 ≤ k + j ∧ k + j ≤ l.length - 1 ∧ zc l (k + j - 1)) := by
      rw [hzc, show k + (j - 1) = k + j - 1 by omega]
      exact ⟨fun h => ⟨by omega, by omega, h.2.2⟩, fun h => ⟨by omega, by omega, h.2.2⟩⟩
    simp only [q]
  have lB : ((s1N (l.length - k - 1) (l.drop k)).getD j zK).l = ((s1N (l.length - 1) l).getD (k + j) zK).l := by
    rw [gB, gL]
    simp only [hg j, hg (j + 1)]
    have q : (j < l.length - k - 1 ∧ zc (l.drop k) j) ↔ (k + j < l.length - 1 ∧ zc l (k + j)) := by
      rw [hzc]
      exact ⟨fun h => ⟨by omega, h.2⟩, fun h => ⟨by omega, h.2⟩⟩
    simp only [q]
    rfl
  have lop : j = 0 → ((s1N (l.length - 1) l).getD (k + j) zK).l.op ≠ 0 := by
    intro e
    rw [gL]
    show (if _ then _ else _ : Sd).op ≠ 0
    split
    · show (3 : Int) ≠ 0; decide
    · rw [e]; exact kl
  by_cases j0 : j = 0
  · rw [if_pos (.inl j0), if_neg (show ¬ j + 1 = l.length - k by omega), if_pos j0] at eB
    rw [if_neg (show ¬ (k + j = 0 ∨ k + j + 1 = l.length) by omega)] at eL
    rw [eB, eL, xB, yB, lB]
    refine ⟨rfl, rfl, fun _ => ?_, fun h => by omega⟩
    show opnW _ = likeW _ _ _ _
    rw [opn_not (lop j0), like_not (lop j0)]
  · by_cases jk : k + j + 1 = l.length
    · rw [if_pos (.inr (by omega)), if_pos (show j + 1 = l.length - k by omega), if_neg j0] at eB
      rw [if_pos (.inr jk), if_pos jk, if_neg (show ¬ k + j = 0 by omega)] at eL
      rw [eB, eL, xB, yB, cB (by omega), lB]
      exact ⟨rfl, rfl, fun _ => rfl, fun _ => rfl⟩
    · rw [if_neg (show ¬ (j = 0 ∨ j + 1 = l.length - k) by omega)] at eB
      rw [if_neg (show ¬ (k + j = 0 ∨ k + j + 1 = l.length) by omega)] at eL
      have e : (s1N (l.length - k - 1) (l.drop k)).getD j zK = (s1N (l.length - 1) l).getD (k + j) zK := by
        have h1 := cB (by omega)
        revert xB yB lB h1
        generalize (s1N (l.length - k - 1) (l.drop k)).getD j zK = u
        generalize (s1N (l.length - 1) l).getD (k + j) zK = v
        intro x y l c
        cases u; cases v
        simp only at x y c l
        rw [x, y, c, l]
      rw [eB, eL, e]
      exact ⟨rfl, rfl, fun _ => rfl, fun _ => rfl⟩
theorem arcs0_cut {l : List Kn} {k : Nat} (h : Cut l k) : arcs0 l false = arcs0 (l.take (k + 1)) false ++ arcs0 (l.drop k) false := by
  have hk := h.k2
  have hAl : (l.take (k + 1)).length = k + 1 := by simp; omega
  have hBl : (l.drop k).length = l.length - k := List.length_drop
  have sA : segs (l.take (k + 1)) false = k := by unfold segs; rw [hAl]; rfl
  have sB : segs (l.drop k) false = l.length - k - 1 := by unfold segs; rw [hBl]; rfl
  have sL : segs l false = l.length - 1 := rfl
  have gA := settled_A h
  have gB := settled_B h
  refine List.ext_getElem? fun j => ?_
  have lA := arcs0_len (l.take (k + 1)) false
  have lB := arcs0_len (l.drop k) false
  have lL := arcs0_len l false
  have G : ∀ (m : List Kn) i, i < segs m false → (arcs0 m false)[i]? = some (arcW (settledW m false) i) := by
    intro m i hi
    rw [← arcs0_get hi]
    have := arcs0_len m false
    simp [List.getD, show i < (arcs0 m false).length by omega]
  by_cases hj : j < l.length - 1
  · rw [G l j hj]
    by_cases hjk : j < k
    · rw [List.getElem?_append_left (by omega), G _ j (by omega)]
      have a := gA j (by omega)
      have b := gA (j + 1) (by omega)
      refine congrArg some ?_
      refine arcW_congr a.1.symm a.2.1.symm (a.2.2.1 hjk).symm ?_ ?_ ?_ <;> rw [settled_len, settled_len, hAl, Nat.mod_eq_of_lt (by omega), Nat.mod_eq_of_lt (by omega)]
      · exact b.1.symm
      · exact b.2.1.symm
      · exact (b.2.2.2 (by omega)).symm
    · rw [List.getElem?_append_right (by omega), lA, sA, G _ (j - k) (by omega)]
      have a := gB (j - k) (by omega)
      have b := gB (j - k + 1) (by omega)
      rw [show k + (j - k) = j by omega] at a
      rw [show k + (j - k + 1) = j + 1 by omega] at b
      refine congrArg some ?_
      refine arcW_congr a.1.symm a.2.1.symm (a.2.2.1 (by omega)).symm ?_ ?_ ?_ <;> rw [settled_len, settled_len, hBl, Nat.mod_eq_of_lt (by omega), Nat.mod_eq_of_lt (by omega)]
      · exact b.1.symm
      · exact b.2.1.symm
      · exact (b.2.2.2 (by omega)).symm
  · rw [List.getElem?_eq_none (by omega), List.getElem?_eq_none (by simp; omega)]
end

section
set_option maxRecDepth 20000
theorem valid_A {l : List Kn} {k : Nat} (hv : validK l false = true) (h : Cut l k) : validK (l.take (k + 1)) false = true := by
  have k2 := h.k2
  have hAl : (l.take (k + 1)).length = k + 1 := by simp; omega
  simp only [validK, Bool.and_eq_true, decide_eq_true_eq] at hv ⊢
  obtain ⟨⟨⟨h1, h2⟩, h3⟩, h4⟩ := hv
  have e : segs l false = l.length - 1 := rfl
  have eA : segs (l.take (k + 1)) false = k := by unfold segs; rw [hAl]; rfl
  refine ⟨⟨⟨by omega, by omega⟩, ?_⟩, fun j hj => ?_⟩
  · rw [List.all_eq_true] at h3 ⊢
    exact fun x hx => h3 x (List.mem_of_mem_take hx)
  · rw [eA] at hj
    have := h4 j (by omega)
    unfold pairK at this ⊢
    rw [hAl, Nat.mod_eq_of_lt (by omega), takeK (by omega), takeK (by omega)]
    rwa [Nat.mod_eq_of_lt (by omega)] at this
theorem valid_B {l : List Kn} {k : Nat} (hv : validK l false = true) (h : Cut l k) : validK (l.drop k) false = true := by
  have k2 := h.k2
  have hBl : (l.drop k).length = l.length - k := List.length_drop
  simp only [validK, Bool.and_eq_true, decide_eq_true_eq] at hv ⊢
  obtain ⟨⟨⟨h1, h2⟩, h3⟩, h4⟩ := hv
  have e : segs l false = l.length - 1 := rfl
  have eB : segs (l.drop k) false = l.length - k - 1 := by unfold segs; rw [hBl]; rfl
  refine ⟨⟨⟨by omega, by omega⟩, ?_⟩, fun j hj => ?_⟩
  · rw [List.all_eq_true] at h3 ⊢
    exact fun x hx => h3 x (List.mem_of_mem_drop hx)
  · rw [eB] at hj
    have := h4 (k + j) (by omega)
    unfold pairK at this ⊢
    rw [hBl, Nat.mod_eq_of_lt (by omega), getD_drop, getD_drop]
    rwa [Nat.mod_eq_of_lt (by omega)] at this
def noGo (P Q : List Ar) : Prop := ∀ i, i + 1 = P.length → ∀ q Q', Q = q :: Q' → goesW (P.getD i zA) q = false
theorem chain_app : ∀ (x : Ar) (xs Q : List Ar), noGo (x :: xs) Q → chainN x (xs ++ Q) = chainN x xs
  | x, [], [], _ => rfl
  | x, [], q :: Q, h => by
    have := h 0 rfl q Q rfl
    have e : goesW x q = false := this
    simp only [List.nil_append, chainN, e]; rfl
  | x, y :: xs, Q, h => by
    have ih := chain_app y xs Q (fun i hi q Q' e => by
      have := h (i + 1) (by simp only [List.length_cons] at hi ⊢; omega) q Q' e
      exact this)
    simp only [List.cons_append, chainN, ih]
theorem strN_fuel : ∀ (f f' : Nat) (L : List Ar), L.length ≤ f → L.length ≤ f' → strN f L = strN f' L
  | 0, f', L, h, _ => by
    have : L = [] := List.eq_nil_of_length_eq_zero (by omega)
    subst this
    cases f' <;> rfl
  | f + 1, 0, L, _, h => by
    have : L = [] := List.eq_nil_of_length_eq_zero (by omega)
    subst this; rfl
  | f + 1, f' + 1, [], _, _ => rfl
  | f + 1, f' + 1, x :: xs, h, h' => by
    simp only [List.length_cons] at h h'
    simp only [strN]
    rw [strN_fuel f f' (xs.drop (chainN x xs)) (by rw [List.length_drop]; omega) (by rw [List.length_drop]; omega)]
theorem str_app : ∀ (f : Nat) (P Q : List Ar), (P ++ Q).length ≤ f → noGo P Q → strN f (P ++ Q) = strN f P ++ strN f Q
  | 0, P, Q, h, _ => by
    rw [List.length_append] at h
    have e1 : P = [] := List.eq_nil_of_length_eq_zero (by omega)
    have e2 : Q = [] := List.eq_nil_of_length_eq_zero (by omega)
    subst e1 e2; rfl
  | f + 1, [], Q, _, _ => rfl
  | f + 1, x :: xs, Q, h, hg => by
    simp only [List.cons_append, List.length_cons, List.length_append] at h
    have hc := chain_app x xs Q hg
    have hle := chain_le x xs
    have ih := str_app f (xs.drop (chainN x xs)) Q (by simp only [List.length_append, List.length_drop]; omega) (fun i hi q Q' e => by
      rw [List.length_drop] at hi
      have := hg (chainN x xs + 1 + i) (by simp only [List.length_cons]; omega) q Q' e
      rwa [← getD_drop] at this)
    have e1 : strN f Q = strN (f + 1) Q := strN_fuel f (f + 1) Q (by omega) (by omega)
    simp only [List.cons_append, strN]
    rw [hc, List.take_append_of_le_length hle, List.drop_append_of_le_length hle, ih, List.append_assoc, e1]
theorem rot_0 (L : List Ar) : rotW L 0 = strN L.length L := by
  unfold rotW
  have hs := (str_S L.length L (Nat.le_refl _)).1
  rw [List.drop_zero, List.take_zero, List.append_nil, Nat.sub_zero, List.drop_of_length_le (by omega), List.take_of_length_le (by omega), List.nil_append]
theorem solve_app {P Q : List Ar} (h : noGo P Q) : solveW (P ++ Q) false = solveW P false ++ solveW Q false := by
  show rotW (P ++ Q) 0 = rotW P 0 ++ rotW Q 0
  rw [rot_0, rot_0, rot_0, str_app _ P Q (Nat.le_refl _) h, strN_fuel _ P.length P (by rw [List.length_append]; omega) (Nat.le_refl _), strN_fuel _ Q.length Q (by rw [List.length_append]; omega) (Nat.le_refl _)]
theorem ch_free : ∀ (rs : List Ar) (n n' k k' : Nat), chPts n false k rs = chPts n' false k' rs
  | [], _, _, _, _ => rfl
  | r :: rs, n, n', k, k' => by
    simp only [chPts, chAdd, or_true, if_true]
    rw [ch_free rs n n' (k + 1) (k' + 1)]
theorem ch_app (n k : Nat) : ∀ (P Q : List Ar), chPts n false k (P ++ Q) = chPts n false k P ++ chPts n false k Q
  | [], _ => rfl
  | p :: P, Q => by
    simp only [List.cons_append, chPts]
    rw [ch_free (P ++ Q) n n (k + 1) k, ch_free P n n (k + 1) k, ch_app n k P Q, List.append_assoc]
theorem err_app : ∀ (P Q : List Ar), chErr (P ++ Q) = if chErr P = 0 then chErr Q else chErr P
  | [], Q => by simp [chErr]
  | p :: P, Q => by
    simp only [List.cons_append, chErr]
    split
    · exact err_app P Q
    · rfl
theorem cut_no {l : List Kn} {k : Nat} (hv : validK l false = true) (h : Cut l k) : noGo (arcs0 (l.take (k + 1)) false) (arcs0 (l.drop k) false) := by
  have k2 := h.k2
  have hAl : (l.take (k + 1)).length = k + 1 := by simp; omega
  have hBl : (l.drop k).length = l.length - k := List.length_drop
  have sA : segs (l.take (k + 1)) false = k := by unfold segs; rw [hAl]; rfl
  intro i hi q Q' e
  rw [arcs0_len, sA] at hi
  have V := settled_F (valid_B hv h)
  have f := V.first rfl
  have g0 : (arcs0 (l.drop k) false).getD 0 zA = q := by rw [e]; rfl
  have hs : 0 < segs (l.drop k) false := by unfold segs; rw [hBl]; simp; omega
  have a := (arc_f (settledW (l.drop k) false) 0).a
  rw [← arcs0_get hs, g0] at a
  unfold goesW
  rw [a, decide_eq_false f, Bool.and_false, Bool.and_false, Bool.and_false]
structure Two (l : List Kn) (k : Nat) : Prop where
  err : chErr (solveW (arcs0 l false) false) = if chErr (solveW (arcs0 (l.take (k + 1)) false) false) = 0 then chErr (solveW (arcs0 (l.drop k) false) false) else chErr (solveW (arcs0 (l.take (k + 1)) false) false)
  pts : chPts (segs l false) false 0 (solveW (arcs0 l false) false) = chPts (segs (l.take (k + 1)) false) false 0 (solveW (arcs0 (l.take (k + 1)) false) false) ++ chPts (segs (l.drop k) false) false 0 (solveW (arcs0 (l.drop k) false) false)
theorem two_of {l : List Kn} {k : Nat} (hv : validK l false = true) (h : Cut l k) : Two l k := by
  have e := arcs0_cut h
  have s := solve_app (cut_no hv h)
  rw [← e] at s
  refine ⟨by rw [s]; exact err_app _ _, ?_⟩
  rw [s, ch_app]
  congr 1
  · exact ch_free _ _ _ _ _
  · exact ch_free _ _ _ _ _
end

section
set_option maxRecDepth 20000
structure EqC (r q : Ar) : Prop where
  ao : q.a.op = r.a.op
  at_ : q.a.t = r.a.t
  av : q.a.v = r.a.v
  bo : q.b.op = r.b.op
  bt : q.b.t = r.b.t
  bv : q.b.v = r.b.v
  far : q.far = r.far
  dir : q.dir = r.dir
section
variable {g g' : Nat → Ar} (h : ∀ i, EqC (g i) (g' i))
include h
end
end

section
set_option maxRecDepth 20000
attribute [local go_sem] eqk27' clKnsL clPtsT clPtsR
structure ArPt (r : Ar) : Prop where
  t : inP (r.tx, r.ty) = true
  a : r.a.op = 3 → inP (r.a.x, r.a.y) = true ∧ inP (r.b.x, r.b.y) = true
  ab : r.a.op = 3 → r.b.op = 3
end

end Go.Proofs.Ytckbchkkjnahlaa
