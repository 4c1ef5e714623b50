/- What functions of the given program answer, part 6. Conditions: each theorem speaks for itself. -/
import Derived.Test.YtckbchkkjnahlaaBTy
import Derived.Test.YtckbchkkjnahlaaBF1
import Derived.Test.YtckbchkkjnahlaaBF2
import Derived.Test.YtckbchkkjnahlaaBF3
import Derived.Test.YtckbchkkjnahlaaBF4
import Derived.Test.YtckbchkkjnahlaaBF5
set_option linter.unusedSimpArgs false
set_option linter.unusedVariables false
namespace Go.Proofs.Ytckbchkkjnahlaa
open Go Go.Eng Go.RowKit
attribute [local go_sem ↓] qE_move qE_assign qE_pick qE_load qE_fieldAddr qE_indexAddr qE_extract qE_binOp qE_neg qE_not qE_convert qE_build qE_len qE_max2 qE_min2 qE_nilCheck qE_slice vc_end vc_skip vc_ret vc_seq vc_cond vc_block vc_exit vc_region vc_draw vc_loop vc_blk vc_lp vc_o_nil vc_o vc_o_guard onK_eq oK_move oK_assign oK_pick oK_load oK_fieldAddr oK_indexAddr oK_index oK_extract oK_binOp oK_unOp oK_convert oK_nilCheck oK_slice oK_build oK_len oK_max oK_min onN_eq oK_box oK_alloc oK_buildSlice oK_makeSlice onH_eq oK_store onA_eq oK_append oK_call oK_copy oK_cap oK_clear bV_add bV_sub bV_mul bV_quo bV_rem bV_or bV_shl bV_shr bV_eql bV_neq bV_lss bV_leq bV_gtr bV_geq vcQ_nil vcQ_cons vcQ_guard Q_move Q_assign Q_pick Q_load Q_fieldAddr Q_indexAddr Q_extract Q_binOp Q_unOp Q_convert Q_nilCheck Q_slice Q_build Q_len Q_alloc Q_makeSlice Q_buildSlice Q_call qE_index tailB_nil tailB_true onS_eq tailB_store onQ_eq onQB_eq loadE indexE
attribute [local go_sem] force_eq optK_some optE_some optE_none bK_v tK_t fnK_fn fyK_fn nK_ptr pK_ptr pK_rp brK_true brK_false brK_not evA_tmp evA_const evA_func putA_some putA_none pushA_eq slots_zero slots_nil tl_nil tl_cons find_cons find_nil setN_cons setN_nil dropN_nil dropN_cons loE_none loE_some hiE_none hiE_some slE_sl slE_ro bE_i bE_beq bE_bne bE_eql bE_neq intsA_nil intsA_cons gdK_b gdK_u popTo_blk popTo_c popTo_lp nilE_tmp nilE_int nilE_nil srcE_ro srcE_sl dstE_sl fin_eq res_nil res_tmp res_cell tup1 tup0 optA_some frz_v frz_ro frz_g frz_sl nm_v nm_ro nm_sl cells_v cells_g cells_ro cells_ptr cells_sl one_int one_bool one_slice oneA_v oneA_ro oneA_sl ofV_int ofV_bool ofV_string ofV_slice len_ro len_sl len_nil asI_int fill_nil fill_cons chunks_nil chunks_cons DrawK_eq idR_eq addB_some roB_cons sg_nil sg_cons ren_v ren_nil ren_ptr ren_sl ren_ro iK_ro iK_sl ixE_s takeA_00 takeA_s nil_eq maskE_eq i_InlQ i_tup2 i_RenF_nil i_RenF_cons wrap_wr brK_dec maskH_eq upd_get slots_succ Cl_v Cl_ro Cl_rp Cl_fn Cl_g Cl_t Bool.false_eq_true decide_true decide_false beq_self_eq_true true_and and_true ne_eq not_true not_false_eq_true List.elem_cons List.elem_nil List.contains_cons List.contains_nil List.getD_cons_zero List.getD_cons_succ Int.cast_ofNat_Int Bool.or_true Bool.true_or Bool.or_false Bool.false_or if_true if_false List.toList_toArray List.map_cons List.map_nil List.cons_append List.nil_append List.append_nil List.flatMap_cons List.flatMap_nil List.getElem?_cons_zero List.getElem?_cons_succ List.length_cons List.length_nil List.drop_succ_cons List.drop_zero List.take_succ_cons List.take_zero List.all_cons List.all_nil List.set_cons_zero List.set_cons_succ Option.bind_some Option.bind_none Option.map_some Option.map_none List.headD_cons List.tail_cons List.getElem?_toArray beq_true beq_false Bool.not_true Bool.not_false Bool.true_and Bool.and_true Bool.false_and Bool.and_false newCh Option.some.injEq exists_eq_left' sg_nil sg_cons List.mem_cons List.not_mem_nil forall_eq_or_imp forall_eq false_implies implies_true or_false false_or false_and and_false or_true true_or exists_false Option.isSome_some Option.isSome_none List.range_zero
attribute [local go_sem] T.ik2 T.us2 T.sz3 T.by3 T.ag3 T.pt3 T.ik3 T.us3 T.ze3 T.sz4 T.ag4 T.bo4 T.ik5 T.us5 T.st9 T.sz22 T.ag22 T.sl22 T.ik22 T.us22 T.sl25 T.ik25 T.us25 T.sz27 T.by27 T.ag27 T.ze27 T.fl27_0 T.fl27_1 T.bu27 T.sz30 T.ag30 T.sz32 T.ag32 T.ze32 T.fl32_0 T.fl32_1 T.fl32_2 T.fl32_3 T.bu32 T.sz34 T.by34 T.ag34 T.ze34 T.fl34_0 T.fl34_1 T.fl34_2 T.bu34 T.sz37 T.ag37 T.ze37 T.fl37_0 T.fl37_1 T.bu37 T.sl41 T.ik41 T.us41 T.sz44 T.by44 T.ag44 T.ze44 T.bu44 T.sz55 T.ag55 T.us55 T.sl56 T.ar56 T.sz61 T.ag61 T.sl61 T.ar61 T.pt61 T.ik61 T.us61 T.ze61 T.sz66 T.by66 T.ag66 T.ze66 T.fl66_0 T.fl66_1 T.fl66_2 T.fl66_3 T.fl66_4 T.fl66_5 T.fl66_6 T.fl66_7 T.fl66_8 T.bu66 T.sl71 T.ik71 T.us71 T.sz80 T.ag80 T.ze80 T.sl81 T.ik94 T.us94 T.sl96 T.ar96 T.pt96 T.ik96 T.us96 T.sz98 T.ag98 T.sl98 T.ar98 T.pt98 T.ik98 T.us98 T.sz100 T.by100 T.ag100 T.ze100 T.fl100_0 T.fl100_1 T.bu100 T.sz101 T.by101 T.ag101 T.sl101 T.ar101 T.ze101 T.sz103 T.by103 T.ag103 T.ze103 T.fl103_0 T.fl103_1 T.fl103_2 T.fl103_3 T.bu103 T.sl107 T.sl112 T.ik118 T.sl122 T.sz127 T.ag127 T.ze127 T.fl127_0 T.fl127_1 T.bu127 T.sz131 T.by131 T.ag131 T.ik131 T.us131 T.ze131 -- NOREP -- EXTRA=EngZR
section
set_option maxRecDepth 20000
attribute [local go_sem] eqk27' clKnsL clKns clArsL clU32 clNat clBigT clBigC clI clRwC clP2C clP2L clBL clRwL
theorem oneRw (l : List Rw) : ∀ c ∈ l.map RwC, ∀ x ∈ c, oneA x = true := by
  intro c hc x hx
  obtain ⟨r, _, rfl⟩ := List.mem_map.1 hc
  simp at hx
  rcases hx with rfl | rfl | rfl | rfl | rfl | rfl | rfl | rfl | rfl | rfl <;> rfl
theorem clone66 (l : List Rw) (hl : l.length < 2 ^ 30) : NFun Try.prog 66 [.ro 10 (l.map RwC)] 10 (l.map RwC) := by
  refine MFun.toN ?_ ((clRwL l).2 trivial)
  refine MFun.intro 400 [2] mixed Try.func66 (by kernel_rfl) rfl (by rw [Try.results66]; rfl) (Nat.le_of_ble_eq_true rfl) ?_; rw [Try.ntmps66]
  simp -dsimp -implicitDefEqProofs only [go_sem, seval]
  refine AtOp.isnil (d := 103) rfl (by kernel_rfl) (by simp -dsimp -implicitDefEqProofs only [go_sem, seval]; rfl) fun b hb => ?_
  simp -dsimp -implicitDefEqProofs only [go_sem, seval]
  refine ⟨fun h => ?_, fun h => ?_⟩
  · have hl0 : l = [] := by
      cases l with
      | nil => rfl
      | cons x r => exact absurd (hb (by simp)) (by rw [h]; simp)
    subst hl0
    exact FinM.mk0 [] (by simp -dsimp -implicitDefEqProofs only [go_sem, seval]) (by simp -dsimp -implicitDefEqProofs only [go_sem, seval]) (by simp) (by simp [sg])
  · have hl2 : l.length ≤ 274877906944 := by omega
    simp -dsimp -implicitDefEqProofs only [go_sem, seval, List.length_map]
    refine ⟨by omega, oneRw l, FinM.mk0 [(0, 1)] (by simp -dsimp -implicitDefEqProofs only [go_sem, seval]) (by simp -dsimp -implicitDefEqProofs only [go_sem, seval]; exact renL_cl rfl ((clRwL l).2 trivial)) (by simp) (by simp [sg])⟩
theorem pv_mod {n i : Nat} (h : i < n) : (i + n - 1) % n = if i = 0 then n - 1 else i - 1 := by
  split
  · rename_i e; subst e; rw [show 0 + n - 1 = n - 1 by omega, Nat.mod_eq_of_lt (by omega)]
  · rw [show i + n - 1 = i - 1 + n by omega, Nat.add_mod_right, Nat.mod_eq_of_lt (by omega)]
def TcI (g : Nat → Ar) (n i : Nat) (T : List Int) : Prop := T.length = n + 1 ∧ ∀ j, j < i → T.getD j 0 = turnC g n j
theorem tc_step {g : Nat → Ar} {n i : Nat} {T : List Int} (h : TcI g n i T) (hi : i < n) : TcI g n (i + 1) (T.set i (redW ((g i).dir - (g (if i = 0 then n - 1 else i - 1)).dir))) := by
  refine ⟨by rw [List.length_set, h.1], fun j hj => ?_⟩
  rw [getD_setG (by rw [h.1]; omega)]
  by_cases e : i = j
  · subst e; rw [if_pos rfl]; unfold turnC; rw [if_neg (show ¬ i = n by omega)]
    by_cases e : i = 0
    · subst e; simp
    · simp [e]
  · rw [if_neg e]; exact h.2 j (by omega)
theorem tc_end {g : Nat → Ar} {n : Nat} {T : List Int} (hn : 1 ≤ n) (h : TcI g n n T) : TcI g n (n + 1) (T.set n (turnC g n 0)) := by
  refine ⟨by rw [List.length_set, h.1], fun j hj => ?_⟩
  rw [getD_setG (by rw [h.1]; omega)]
  by_cases e : n = j
  · subst e; rw [if_pos rfl]; unfold turnC; rw [if_neg (by omega), if_pos rfl, if_pos rfl]
  · rw [if_neg e]; exact h.2 j (by omega)
def RcI (g : Nat → Ar) (n i : Nat) (R : List Rw) : Prop := R.length = n ∧ ∀ j, j < i → R.getD j zRw = rowC g n j
theorem rc_step {g : Nat → Ar} {n i : Nat} {R : List Rw} (h : RcI g n i R) (hi : i < n) : RcI g n (i + 1) (R.set i (rowC g n i)) := by
  refine ⟨by rw [List.length_set, h.1], fun j hj => ?_⟩
  rw [getD_setG (by rw [h.1]; omega)]
  by_cases e : i = j
  · subst e; rw [if_pos rfl]
  · rw [if_neg e]; exact h.2 j (by omega)
def resL (g : Nat → Ar) (n : Nat) : List Rw := (List.range (n - 1)).map (resF g n)
theorem resL_len (g : Nat → Ar) (n : Nat) : (resL g n).length = n - 1 := by simp [resL]
def rcR (x : Rw) (s : Int) : Rw := ⟨x.a, x.m, x.e, x.r, s⟩
theorem rc_set {g : Nat → Ar} {n : Nat} {R : List Rw} (hn : 2 ≤ n) (h : RcI g n n R) {w0 w2 w1 : Rw} (h0 : w0 = rcR (rowC g n 1) ((rowC g n 1).s - (rowC g n 1).a)) (h2 : w2 = ((R.drop 1).set 0 w0).getD (n - 2) zRw) (h1 : w1 = rcR w2 (w2.s - w2.e)) : ((R.drop 1).set 0 w0).set (n - 2) w1 = resL g n := by
  have hRl := h.1
  have hd : (R.drop 1).length = n - 1 := by rw [List.length_drop, h.1]
  have s0 : ∀ k, (rowC g n k).s = 0 := fun _ => rfl
  have hw2 : w2 = if n = 2 then w0 else rowC g n (n - 1) := by
    rw [h2, getD_setG (by omega)]
    by_cases e : n = 2
    · rw [if_pos e, if_pos (by omega)]
    · rw [if_neg e, if_neg (by omega), getD_drop, h.2 _ (by omega), show 1 + (n - 2) = n - 1 by omega]
  refine List.ext_getElem? fun j => ?_
  by_cases hj : j < n - 1
  · have e : (resL g n)[j]? = some (resF g n j) := by unfold resL; rw [List.getElem?_map, List.getElem?_range hj]; rfl
    rw [e, resF_eq g (by omega), List.getElem?_eq_getElem (by simp; omega)]
    congr 1
    have d : ∀ (L : List Rw) (q : j < L.length), L[j] = L.getD j zRw := fun L q => by simp [List.getD, q]
    rw [d, getD_setG (by simp; omega)]
    by_cases e1 : n - 2 = j
    · rw [if_pos e1, h1, hw2]
      by_cases e2 : n = 2
      · have ej : j = 0 := by omega
        rw [if_pos e2, h0, ej, if_pos rfl, if_pos (by omega)]
        unfold rcR
        simp only [s0, Int.zero_sub, Nat.zero_add]
      · rw [if_neg e2, if_neg (by omega), if_pos (by omega)]
        unfold rcR
        rw [s0, show j + 1 = n - 1 by omega]
    · rw [if_neg e1, getD_setG (by omega)]
      by_cases e2 : 0 = j
      · subst e2
        rw [if_pos rfl, if_pos rfl, if_neg (by omega), h0]
        unfold rcR
        simp only [s0, Int.zero_sub, Int.sub_zero, Nat.zero_add]
      · rw [if_neg e2, getD_drop, h.2 _ (by omega), if_neg (by omega), if_neg (by omega), Nat.add_comm 1 j]
        rfl
  · rw [List.getElem?_eq_none (by simp; omega), List.getElem?_eq_none (by rw [resL_len]; omega)]
theorem fzAr (l : List Ar) (F : Nat → Option Blk) (ns : List Nat) : (l.map ArC).map (fun ch => ch.map (fz F ns)) = l.map ArC := by rw [List.map_map]; rfl
theorem fzI (l : List Int) (F : Nat → Option Blk) (ns : List Nat) : (l.map fun n => [I n]).map (fun ch => ch.map (fz F ns)) = l.map fun n => [I n] := by rw [List.map_map]; rfl
theorem setRc (D : List Rw) (i : Nat) (x : Rw) (s : Int) : (D.map RwC).set i [Bo (decide (x.a < 0)), NatA (dig (x.a.natAbs : Int)), Bo (decide (x.m < 0)), NatA (dig (x.m.natAbs : Int)), Bo (decide (x.e < 0)), NatA (dig (x.e.natAbs : Int)), Bo (decide (x.r < 0)), NatA (dig (x.r.natAbs : Int)), Bo (decide (s < 0)), NatA (dig (s.natAbs : Int))] = (D.set i (rcR x s)).map RwC := by rw [List.map_set]; rfl
theorem resL_fun (g : Nat → Ar) (n : Nat) : (fun i => (resL g n).getD i zRw) = resF g n := by
  funext i
  unfold resL
  by_cases h : i < n - 1
  · simp only [List.getD]; rw [List.getElem?_map, List.getElem?_range h]; rfl
  · simp only [List.getD]; rw [List.getElem?_eq_none (by simp; omega)]
    unfold resF; rw [if_neg (by omega)]; rfl
theorem xs_len (f : Nat → Rw) (n : Nat) : (xs f n).length = n := by simp [xs]
def ThC (g : Nat → Ar) (n i : Nat) : List Int := (List.range (i + 1)).map (theC g n)
theorem thC_len (g : Nat → Ar) (n i : Nat) : (ThC g n i).length = i + 1 := by simp [ThC]
theorem thC_step (g : Nat → Ar) (n i : Nat) : ThC g n (i + 1) = ThC g n i ++ [theC g n (i + 1)] := by unfold ThC; rw [List.range_succ, List.map_append]; rfl
theorem thC_get {g : Nat → Ar} {n i j : Nat} (h : j ≤ i) : (ThC g n i).getD j 0 = theC g n j := by
  unfold ThC
  simp only [List.getD]
  rw [List.getElem?_map, List.getElem?_range (by omega)]; rfl
theorem thC_last {g : Nat → Ar} {n i : Nat} (h : i + 1 < n) : rndW (xE (resF g n) Rw.r (n - 1) i * downW g n + xE (resF g n) Rw.s (n - 1) i * upW g n) (qE (resF g n) (n - 1) * downW g n) = theC g n (i + 1) := by
  unfold theC
  rw [if_neg (by omega), Nat.add_sub_cancel]
theorem thC_app (g : Nat → Ar) (n i : Nat) : ((ThC g n i).map fun n => [I n]) ++ [[I (theC g n (i + 1))]] = (ThC g n (i + 1)).map fun n => [I n] := by rw [thC_step, List.map_append]; rfl
def cycI (g : Nat → Ar) (n i : Nat) : List Ar := (List.range n).map fun k => if k < i then uvA (g k) (theC g n k) (wr (-(turnC g n (k + 1)) - theC g n (k + 1))) else g k
theorem cyc_0 (g : Nat → Ar) (n : Nat) : cycI g n 0 = (List.range n).map g := List.map_congr_left fun k hk => if_neg (Nat.not_lt_zero _)
theorem cyc_len (g : Nat → Ar) (n i : Nat) : (cycI g n i).length = n := by simp [cycI]
theorem cyc_get (g : Nat → Ar) {n i k : Nat} (h : k < n) : (cycI g n i)[k]? = some (if k < i then uvA (g k) (theC g n k) (wr (-(turnC g n (k + 1)) - theC g n (k + 1))) else g k) := by
  unfold cycI
  rw [List.getElem?_map, List.getElem?_range h]; rfl
theorem getCyc (g : Nat → Ar) {n i : Nat} (h : i < n) : ((cycI g n i).map ArC)[i]? = some (ArC (g i)) := by
  rw [List.getElem?_map, cyc_get g h, if_neg (Nat.lt_irrefl _)]; rfl
theorem cyc_set (g : Nat → Ar) {n i : Nat} (h : i < n) : (cycI g n i).set i (uvA (g i) (theC g n i) (wr (-(turnC g n (i + 1)) - theC g n (i + 1)))) = cycI g n (i + 1) := by
  refine List.ext_getElem? fun j => ?_
  by_cases hj : j < n
  · rw [List.getElem?_set, cyc_get g hj, cyc_get g hj, cyc_len]
    by_cases e : i = j
    · subst e; rw [if_pos rfl, if_pos h, if_pos (by omega)]
    · rw [if_neg e]
      by_cases q : j < i
      · rw [if_pos q, if_pos (by omega)]
      · rw [if_neg q, if_neg (by omega)]
  · rw [List.getElem?_eq_none (by rw [List.length_set, cyc_len]; omega), List.getElem?_eq_none (by rw [cyc_len]; omega)]
theorem setCyc (g : Nat → Ar) {n i : Nat} (h : i < n) : ((cycI g n i).map ArC).set i (ArC (uvA (g i) (theC g n i) (wr (-(turnC g n (i + 1)) - theC g n (i + 1))))) = (cycI g n (i + 1)).map ArC := by rw [← List.map_set, cyc_set g h]
set_option maxHeartbeats 8000000 in
theorem whole46 (l : List Ar) (h2 : 2 ≤ l.length) (h3 : l.length ≤ 200) (hok : ∀ k, k < l.length → okG (l.getD k zA)) : MFun Try.prog 46 [.sl 0 0 l.length] [(0, ⟨19, l.map ArC⟩)] 1 none [0] (.t []) [(0, ⟨19, (wholeW l).map ArC⟩)] 1 none := by
  obtain ⟨n, hnn⟩ : ∃ n, n = l.length := ⟨_, rfl⟩
  obtain ⟨g, hg⟩ : ∃ g : Nat → Ar, g = fun i => l.getD i zA := ⟨_, rfl⟩
  have hgi : ∀ k, l.getD k zA = g k := fun k => by rw [hg]
  have hA : ∀ k, k < n → (l.map ArC)[k]? = some (ArC (g k)) := fun k hk => by rw [← hgi]; exact getAr (by omega)
  rw [← hnn] at h2 h3 hok
  simp only [hgi] at hok
  rw [← hnn]
  have hlm : l = (List.range n).map g := by
    refine List.ext_getElem? fun j => ?_
    by_cases hj : j < n
    · rw [List.getElem?_map, List.getElem?_range hj, Option.map_some, ← hgi]; simp [List.getD, show j < l.length by omega]
    · rw [List.getElem?_eq_none (by omega), List.getElem?_eq_none (by simp; omega)]
  have hwh : wholeW l = cycI g n n := by
    unfold wholeW cycI
    rw [← hnn, ← hg]
    refine List.map_congr_left fun k hk => ?_
    rw [if_pos (List.mem_range.1 hk), hgi]
  obtain ⟨LA, hLA⟩ : ∃ LA, LA = l.map ArC := ⟨_, rfl⟩
  have hLA0 : LA = (cycI g n 0).map ArC := by rw [hLA, cyc_0, ← hlm]
  have hlen : LA.length = n := by rw [hLA, List.length_map, hnn]
  rw [hwh]
  rw [← hLA] at hA ⊢
  have clA : ∀ c ∈ LA, ∀ s ∈ c, Cl s := by rw [hLA]; exact (clArsL _).2 trivial
  have w1 : wr (((n : Nat) : Int) + 1) = ((n + 1 : Nat) : Int) := by rw [wr_in] <;> omega
  have c3 : ((n + 1 : Nat) : Int) ≤ 274877906944 := by omega
  have c3' : ((n : Nat) : Int) ≤ 274877906944 := by omega
  have hn0 : ¬ ((n : Nat) : Int) = 0 := by omega
  refine MFun.intro2 400 [] mixed Try.func46 (by kernel_rfl) rfl (by rw [Try.results46]; rfl) (Nat.le_of_ble_eq_true rfl) ?_; rw [Try.ntmps46]
  simp -dsimp -implicitDefEqProofs only [go_sem, seval, w1, c3, Int.natCast_nonneg, Int.toNat_natCast, Int.le_refl]
  refine ⟨{q : Nat × List Int // q.1 ≤ n ∧ TcI g n q.1 q.2}, fun q => ⟨219, tl [(0, .sl 0 0 n), (2, I (n : Nat)), (3, .sl 1 0 (n + 1)), (23, I (n : Nat)), (24, I q.1.1)], [(0, ⟨19, LA⟩), (1, ⟨1, q.1.2.map fun n => [I n]⟩)], 2, ⟨[tl [(0, .sl 0 0 n)]], some (.mp none)⟩⟩, fun q => n - q.1.1,
    ⟨⟨(0, List.replicate (n + 1) 0), Nat.zero_le _, by simp, fun j hj => absurd hj (Nat.not_lt_zero _)⟩, Le.tl (Ls := [[(0, .sl 0 0 n)]]) [] (by simp -dsimp -implicitDefEqProofs only [go_sem, seval]) ?_ (by simp) (by simp [sg]) ⟨by simp -dsimp -implicitDefEqProofs only [go_sem, seval], trivial⟩⟩, fun q => ?_⟩
  · simp -dsimp -implicitDefEqProofs only [go_sem, seval]
    exact ⟨renL_cl rfl clA, renL_cl2 (by rw [List.map_replicate]) ((clI _).2 trivial)⟩
  obtain ⟨⟨i, T⟩, hi2, hT⟩ := q
  simp only at hi2 hT
  simp -dsimp -implicitDefEqProofs only [go_sem, seval]
  refine ⟨fun h9 => ?_, fun h9 => ?_⟩
  · have him : i < n := by omega
    have e1 : wr (((i : Nat) : Int) + (n : Nat)) = ((i + n : Nat) : Int) := by rw [wr_in] <;> omega
    have e2 : wr (((i + n : Nat) : Int) - 1) = ((i + n - 1 : Nat) : Int) := by rw [wr_in] <;> omega
    have e3 : (((i + n - 1 : Nat) : Int)).tmod (n : Int) = (((i + n - 1) % n : Nat) : Int) := tmodN _ _
    rw [pv_mod him] at e3
    obtain ⟨j, hj⟩ : ∃ j, j = if i = 0 then n - 1 else i - 1 := ⟨_, rfl⟩
    have hjn : j < n := by rw [hj]; split <;> omega
    have hst := tc_step hT him
    rw [← hj] at e3 hst
    have e4 : wr ((j : Nat) : Int) = ((j : Nat) : Int) := wr_in (by omega) (by omega)
    have e5 : wr (((i : Nat) : Int) + 1) = ((i + 1 : Nat) : Int) := by rw [wr_in] <;> omega
    have gi := hA i him
    have gj := hA j hjn
    have ci : ((i : Nat) : Int) < ((n : Nat) : Int) := by omega
    have cj : ((j : Nat) : Int) < ((n : Nat) : Int) := by omega
    have ci2 : ((i : Nat) : Int) < ((n + 1 : Nat) : Int) := by omega
    have d1 := hok i him
    have d2 := hok j hjn
    have d11 := d1.d1; have d12 := d1.d2; have d21 := d2.d1; have d22 := d2.d2
    have wd : wr ((g i).dir - (g j).dir) = (g i).dir - (g j).dir := wr_in (by omega) (by omega)
    have hr := reduced64 ((g i).dir - (g j).dir)
    have gT := getI1 (D := T) (i := i) (by rw [hT.1]; omega)
    refine AtCode.draw 20 [([], []), ([], []), ([], []), ([], []), ([2, 3], []), ([2, 3, 4], []), ([2, 3, 4, 5], []), ([], []), ([], []), ([], []), ([8, 9], []), ([8, 9, 10], []), ([], []), ([8, 9, 10, 11, 12], []), ([7, 8, 9, 10, 11, 12, 13], []), ([7, 8, 9, 10, 11, 12, 13, 14], []), ([7, 8, 9, 10, 11, 12, 13, 14, 15], []), ([2, 3, 4, 5, 6, 7, 8, 9, 10, 11, 12, 13, 14, 15, 16], []), ([2, 3, 4, 5, 6, 7, 8, 9, 10, 11, 12, 13, 14, 15, 16, 17], []), ([0, 1, 2, 3, 4, 5, 6, 7, 8, 9, 10, 11, 12, 13, 14, 15, 16, 17, 18], []), ([0, 1, 2, 3, 4, 5, 6, 7, 8, 9, 10, 11, 12, 13, 14, 15, 16, 17, 18, 19], [])] (by kernel_rfl) ?_
    simp -dsimp -implicitDefEqProofs only [go_sem, seval, gi, gj, e1, e2, e3, e4, hn0, ci, cj, wd, Int.natCast_nonneg, Int.toNat_natCast, Nat.zero_add]
    refine QFn.use _ hr (by simp -dsimp -implicitDefEqProofs only [go_sem, seval]) ?_
    simp -dsimp -implicitDefEqProofs only [go_sem, seval, gT, ci2, e5, Int.natCast_nonneg, Int.toNat_natCast, Nat.zero_add, setI1]
    refine ⟨⟨(i + 1, _), by show i + 1 ≤ n; omega, hst⟩, by show n - (i + 1) < n - i; omega, Le.tl (Ls := [[(0, .sl 0 0 n)]]) [] (by simp -dsimp -implicitDefEqProofs only [go_sem, seval, e5]) ?_ (by simp) (by simp [sg]) ⟨by simp -dsimp -implicitDefEqProofs only [go_sem, seval], trivial⟩⟩
    simp -dsimp -implicitDefEqProofs only [go_sem, seval]
    exact ⟨renL_cl rfl clA, renL_cl rfl ((clI _).2 trivial)⟩
  have him : n = i := by omega
  subst him
  have g0 := getI1 (D := T) (i := 0) (by rw [hT.1]; omega)
  rw [hT.2 0 (by omega)] at g0
  have gn := getI1 (D := T) (i := n) (by rw [hT.1]; omega)
  have hT := tc_end (by omega) hT
  obtain ⟨T1, hT1⟩ : ∃ T1, T1 = T.set n (turnC g n 0) := ⟨_, rfl⟩
  rw [← hT1] at hT
  have c0n : (0 : Int) < ((n + 1 : Nat) : Int) := by omega
  have cnn : ((n : Nat) : Int) < ((n + 1 : Nat) : Int) := by omega
  simp -dsimp -implicitDefEqProofs only [go_sem, seval, g0, gn, c0n, cnn, setI1, ← hT1, c3', Int.natCast_nonneg, Int.toNat_natCast, Nat.zero_add, Int.le_refl, show (0 : Int) ≤ 0 by decide]
  have hTn := fun (j : Nat) (hj : j < n + 1) => hT.2 j hj
  have hTl := hT.1
  clear hT
  refine ⟨{q : Nat × List Rw // q.1 ≤ n ∧ RcI g n q.1 q.2}, fun q => ⟨219, tl [(0, .sl 0 0 n), (2, I (n : Nat)), (3, .sl 1 0 (n + 1)), (5, .sl 2 0 n), (57, I (n : Nat)), (58, I q.1.1)], [(0, ⟨19, LA⟩), (1, ⟨1, T1.map fun n => [I n]⟩), (2, ⟨10, q.1.2.map RwC⟩)], 3, ⟨[tl [(0, .sl 0 0 n)]], some (.mp none)⟩⟩, fun q => n - q.1.1,
    ⟨⟨(0, List.replicate n zRw), Nat.zero_le _, by simp, fun j hj => absurd hj (Nat.not_lt_zero _)⟩, Le.trans (Le.hsub 2 (b := ⟨10, _⟩) rfl (repR n)) (Le.tl (Ls := [[(0, .sl 0 0 n)]]) [] (by simp -dsimp -implicitDefEqProofs only [go_sem, seval]) ?_ (by simp) (by simp [sg]) ⟨by simp -dsimp -implicitDefEqProofs only [go_sem, seval], trivial⟩)⟩, fun q => ?_⟩
  · simp -dsimp -implicitDefEqProofs only [go_sem, seval]
    exact ⟨renL_cl rfl clA, renL_cl rfl ((clI _).2 trivial), renL_cl rfl ((clRwL _).2 trivial)⟩
  obtain ⟨⟨i, R⟩, hi2, hR⟩ := q
  simp only at hi2 hR
  simp -dsimp -implicitDefEqProofs only [go_sem, seval]
  refine ⟨fun h9 => ?_, fun h9 => ?_⟩
  · have him : i < n := by omega
    have e1 : wr (((i : Nat) : Int) + (n : Nat)) = ((i + n : Nat) : Int) := by rw [wr_in] <;> omega
    have e2 : wr (((i + n : Nat) : Int) - 1) = ((i + n - 1 : Nat) : Int) := by rw [wr_in] <;> omega
    have e3 : (((i + n - 1 : Nat) : Int)).tmod (n : Int) = (((i + n - 1) % n : Nat) : Int) := tmodN _ _
    rw [pv_mod him] at e3
    have hst := rc_step hR him
    have hrow : rowC g n i = innW (g (if i = 0 then n - 1 else i - 1)) (g i) (turnC g n i) (turnC g n (i + 1)) := rfl
    obtain ⟨j, hj⟩ : ∃ j, j = if i = 0 then n - 1 else i - 1 := ⟨_, rfl⟩
    have hjn : j < n := by rw [hj]; split <;> omega
    rw [← hj] at e3 hrow
    have e4 : wr ((j : Nat) : Int) = ((j : Nat) : Int) := wr_in (by omega) (by omega)
    have e5 : wr (((i : Nat) : Int) + 1) = ((i + 1 : Nat) : Int) := by rw [wr_in] <;> omega
    have gi := hA i him
    have gj := hA j hjn
    have ci : ((i : Nat) : Int) < ((n : Nat) : Int) := by omega
    have cj : ((j : Nat) : Int) < ((n : Nat) : Int) := by omega
    have ci2 : ((i : Nat) : Int) < ((n + 1 : Nat) : Int) := by omega
    have ci3 : ((i + 1 : Nat) : Int) < ((n + 1 : Nat) : Int) := by omega
    have gT := getI1 (D := T1) (i := i) (by omega)
    rw [hTn i (by omega)] at gT
    have gT1 := getI1 (D := T1) (i := i + 1) (by omega)
    rw [hTn (i + 1) (by omega)] at gT1
    have b1 := turnC_b g n i
    have b2 := turnC_b g n (i + 1)
    have o1 := (hok j hjn).ar
    have o2 := (hok i him).ar
    have hin := inner65 (g j) (g i) (turnC g n i) (turnC g n (i + 1)) o1.at_ o1.bt o2.at_ o2.bt o1.far o2.far ⟨by omega, by omega⟩ ⟨by omega, by omega⟩
    rw [← hrow] at hin
    have gR := getRw (D := R) (i := i) (by rw [hR.1]; omega)
    have hset := setR R i (rowC g n i)
    refine AtCode.draw 26 [([], []), ([], []), ([], []), ([], []), ([], []), ([3, 4], []), ([3, 4, 5], []), ([], []), ([3, 4, 5, 6, 7], []), ([2, 3, 4, 5, 6, 7, 8], []), ([2, 3, 4, 5, 6, 7, 8, 9], []), ([], []), ([], []), ([11, 12], []), ([11, 12, 13], []), ([], []), ([], []), ([15, 16], []), ([15, 16, 17], []), ([], []), ([], []), ([20], []), ([19, 20, 21], []), ([19, 20, 21, 22], []), ([2, 3, 4, 5, 6, 7, 8, 9, 10, 11, 12, 13, 14, 15, 16, 17, 18, 19, 20, 21, 22, 23], []), ([0, 1, 2, 3, 4, 5, 6, 7, 8, 9, 10, 11, 12, 13, 14, 15, 16, 17, 18, 19, 20, 21, 22, 23, 24], []), ([0, 1, 2, 3, 4, 5, 6, 7, 8, 9, 10, 11, 12, 13, 14, 15, 16, 17, 18, 19, 20, 21, 22, 23, 24, 25], [])] (by kernel_rfl) ?_
    simp -dsimp -implicitDefEqProofs only [go_sem, seval, gi, gj, gT, gT1, e1, e2, e3, e4, e5, hn0, ci, cj, ci2, ci3, Int.natCast_nonneg, Int.toNat_natCast, Nat.zero_add]
    refine QFn.use _ hin (by simp -dsimp -implicitDefEqProofs only [go_sem, seval]) ?_
    simp -dsimp -implicitDefEqProofs only [go_sem, seval, gR, ci, e5, Int.natCast_nonneg, Int.toNat_natCast, Nat.zero_add]
    simp only [hset]
    refine ⟨⟨(i + 1, R.set i (rowC g n i)), by show i + 1 ≤ n; omega, hst⟩, by show n - (i + 1) < n - i; omega, Le.tl (Ls := [[(0, .sl 0 0 n)]]) [] (by simp -dsimp -implicitDefEqProofs only [go_sem, seval, e5]) ?_ (by simp) (by simp [sg]) ⟨by simp -dsimp -implicitDefEqProofs only [go_sem, seval], trivial⟩⟩
    simp -dsimp -implicitDefEqProofs only [go_sem, seval]
    exact ⟨renL_cl rfl clA, renL_cl rfl ((clI _).2 trivial), renL_cl rfl ((clRwL _).2 trivial)⟩
  have him : n = i := by omega
  subst him
  have hRl := hR.1
  have c1n : (1 : Int) ≤ ((n : Nat) : Int) := by omega
  have tR0 : takeA 0 n (R.map RwC) = R.map RwC := by rw [takeA_eq, List.drop_zero, List.take_of_length_le (by rw [List.length_map]; omega)]
  have tR1 : takeA 1 (n - 1) (R.map RwC) = (R.drop 1).map RwC := by rw [takeA_eq, ← List.map_drop, List.take_of_length_le (by rw [List.length_map, List.length_drop]; omega)]
  have le1 : 1 + (n - 1) ≤ n := by omega
  refine ⟨⟨by omega, Nat.le_refl _⟩, ?_⟩
  refine AtFn.le ⟨219, tl [(0, .sl 0 0 n), (2, I (n : Nat)), (3, .sl 1 0 (n + 1)), (5, .ro 10 (R.map RwC)), (89, .ro 10 ((R.drop 1).map RwC))], [(0, ⟨19, LA⟩), (1, ⟨1, T1.map fun n => [I n]⟩)], 2, ⟨[tl [(0, .sl 0 0 n)]], some (.mp none)⟩⟩ [.ro 10 ((R.drop 1).map RwC)] (Le.ftl (Ls := [[(0, .sl 0 0 n)]]) [2] [] ?_ ?_ (by simp) (by simp [sg]) ⟨by simp -dsimp -implicitDefEqProofs only [go_sem, seval], trivial⟩) (by intro fo xs ts h; cases h; exact ⟨by simp -dsimp -implicitDefEqProofs only [go_sem, seval], by simp -dsimp -implicitDefEqProofs only [go_sem, seval]⟩) ?_
  · simp -dsimp -implicitDefEqProofs only [go_sem, seval, fz, List.length_map, hRl, tR0, tR1, Nat.zero_add, Nat.le_refl, le1]
  · simp -dsimp -implicitDefEqProofs only [go_sem, seval, fzB]
    exact ⟨renL_cl2 (by rw [hLA]; exact fzAr _ _ _) clA, renL_cl2 (fzI _ _ _) ((clI _).2 trivial)⟩
  have hDl : (R.drop 1).length = n - 1 := by rw [List.length_drop, hRl]
  have hD0 : (R.drop 1).getD 0 zRw = rowC g n 1 := by rw [getD_drop]; exact hR.2 1 (by omega)
  refine AtFn.new (clone66 (R.drop 1) (by omega)) ?_
  have hw := fun (w2 : Rw) (h2 : w2 = ((R.drop 1).set 0 (rcR (rowC g n 1) ((rowC g n 1).s - (rowC g n 1).a))).getD (n - 2) zRw) => rc_set (by omega) hR rfl h2 rfl
  obtain ⟨w2, hw2⟩ : ∃ w2, w2 = ((R.drop 1).set 0 (rcR (rowC g n 1) ((rowC g n 1).s - (rowC g n 1).a))).getD (n - 2) zRw := ⟨_, rfl⟩
  have hw := hw w2 hw2
  have B1 := rowC_B hok (show 1 < n by omega)
  have hwB : bd 17 w2.s ∧ bd 17 w2.e := by
    rw [hw2, getD_setG (by omega)]
    split
    · exact ⟨bd_sub B1.s B1.a, bd_mono B1.e (by omega)⟩
    · rw [getD_drop, hR.2 _ (by omega)]
      have B2 := rowC_B hok (show 1 + (n - 2) < n by omega)
      exact ⟨bd_mono B2.s (by omega), bd_mono B2.e (by omega)⟩
  obtain ⟨D, hD⟩ : ∃ D, D = R.drop 1 := ⟨_, rfl⟩
  rw [← hD] at hDl hD0 hw hw2 ⊢
  have gD0 := getRw (D := D) (i := 0) (by omega)
  rw [hD0] at gD0
  have c01 : (0 : Int) < ((n - 1 : Nat) : Int) := by omega
  have wn2 : wr (((n : Nat) : Int) - 2) = ((n - 2 : Nat) : Int) := by rw [wr_in] <;> omega
  have cn2 : ((n - 2 : Nat) : Int) < ((n - 1 : Nat) : Int) := by omega
  have q1 := minus67 (rowC g n 1).s (rowC g n 1).a (bd_sz B1.s (by decide)) (bd_sz B1.a (by decide))
  have q2 := minus67 w2.s w2.e (bd_sz hwB.1 (by decide)) (bd_sz hwB.2 (by decide))
  obtain ⟨x1, hx1⟩ : ∃ x1, x1 = rowC g n 1 := ⟨_, rfl⟩
  rw [← hx1] at gD0 q1 hw hw2
  obtain ⟨D1, hD1⟩ : ∃ D1, D1 = D.set 0 (rcR x1 (x1.s - x1.a)) := ⟨_, rfl⟩
  rw [← hD1] at hw hw2
  have hD1l : D1.length = n - 1 := by rw [hD1, List.length_set, hDl]
  have gD1 := getRw (D := D1) (i := n - 2) (by omega)
  rw [← hw2] at gD1
  simp -dsimp -implicitDefEqProofs only [go_sem, seval, List.length_map, hDl]
  refine AtCode.draw 14 [([], []), ([], []), ([1], []), ([1, 2], []), ([1, 2, 3], []), ([1, 2, 3, 4], []), ([], []), ([6], []), ([6, 7], []), ([6, 7, 8], []), ([1, 2, 3, 4, 5, 6, 7, 8, 9], []), ([0], []), ([0, 11], []), ([0, 1, 2, 3, 4, 5, 6, 7, 8, 9, 10, 11, 12], []), ([0, 1, 2, 3, 4, 5, 6, 7, 8, 9, 10, 11, 12, 13], [])] (by kernel_rfl) ?_
  simp -dsimp -implicitDefEqProofs only [go_sem, seval, gD0, c01, Int.toNat_natCast, Int.natCast_nonneg, Nat.zero_add, show (0 : Int) ≤ 0 by decide, show (1 : Int) < 2 by decide, show (0 : Int) ≤ 1 by decide]
  refine QFn.use _ q1 (by simp -dsimp -implicitDefEqProofs only [go_sem, seval]) ?_
  simp -dsimp -implicitDefEqProofs only [go_sem, seval, gD0, c01, Int.toNat_natCast, Int.natCast_nonneg, Nat.zero_add, show (0 : Int) ≤ 0 by decide]
  simp only [setRc, ← hD1]
  refine AtCode.draw 20 [([], []), ([], []), ([1], []), ([], []), ([], []), ([4], []), ([3, 4, 5], []), ([3, 4, 5, 6], []), ([3, 4, 5, 6, 7], []), ([3, 4, 5, 6, 7, 8], []), ([], []), ([], []), ([11], []), ([10, 11, 12], []), ([10, 11, 12, 13], []), ([10, 11, 12, 13, 14], []), ([3, 4, 5, 6, 7, 8, 9, 10, 11, 12, 13, 14, 15], []), ([0, 1, 2], []), ([0, 1, 2, 17], []), ([0, 1, 2, 3, 4, 5, 6, 7, 8, 9, 10, 11, 12, 13, 14, 15, 16, 17, 18], []), ([0, 1, 2, 3, 4, 5, 6, 7, 8, 9, 10, 11, 12, 13, 14, 15, 16, 17, 18, 19], [])] (by kernel_rfl) ?_
  simp -dsimp -implicitDefEqProofs only [go_sem, seval, gD1, wn2, cn2, Int.toNat_natCast, Int.natCast_nonneg, Nat.zero_add, show (1 : Int) < 2 by decide, show (0 : Int) ≤ 1 by decide]
  refine QFn.use _ q2 (by simp -dsimp -implicitDefEqProofs only [go_sem, seval]) ?_
  simp -dsimp -implicitDefEqProofs only [go_sem, seval, gD1, cn2, Int.toNat_natCast, Int.natCast_nonneg, Nat.zero_add]
  simp only [setRc, hw]
  have E := res_ElB h2 (by omega) hok
  have hel := elim68 (resL g n) (KE (n - 1)) (by rw [resL_fun, resL_len]; exact E)
  rw [resL_fun, resL_len] at hel
  have tRR : takeA 0 (n - 1) ((resL g n).map RwC) = (resL g n).map RwC := by rw [takeA_eq, List.drop_zero, List.take_of_length_le (by rw [List.length_map, resL_len]; omega)]
  refine AtFn.pure hel ?_
  simp -dsimp -implicitDefEqProofs only [go_sem, seval, List.length_map, resL_len, tRR, Nat.zero_add, Nat.le_refl, Int.natCast_nonneg, Int.toNat_natCast, Int.le_refl]
  obtain ⟨K, hK⟩ : ∃ K, K = KE (n - 1) := ⟨_, rfl⟩
  have W := wh_B h2 (by omega) hok
  have hK2 := KE_b (show n - 1 ≤ 300 by omega)
  rw [← hK] at E W hK2
  have hdp := down_pos h2 hok
  obtain ⟨q, hq⟩ : ∃ q, q = qE (resF g n) (n - 1) := ⟨_, rfl⟩
  obtain ⟨X, hX⟩ : ∃ X, X = xs (resF g n) (n - 1) := ⟨_, rfl⟩
  have hXl : X.length = n - 1 := by rw [hX, xs_len]
  have gX : ∀ k, k < n - 1 → (X.map P2C)[k]? = some (P2C (xE (resF g n) Rw.r (n - 1) k, xE (resF g n) Rw.s (n - 1) k)) := fun k hk => by rw [hX]; exact getXs hk
  have gX0 := gX 0 (by omega)
  have gXz := gX (n - 2) (by omega)
  have hup : upW g n = (rowC g n 0).r * q - (rowC g n 0).a * xE (resF g n) Rw.r (n - 1) (n - 2) - (rowC g n 0).e * xE (resF g n) Rw.r (n - 1) 0 := by rw [hq]; rfl
  have hdn : downW g n = (rowC g n 0).m * q + (rowC g n 0).a * xE (resF g n) Rw.s (n - 1) (n - 2) + (rowC g n 0).e * xE (resF g n) Rw.s (n - 1) 0 := by rw [hq]; rfl
  have bq := E.q (n - 1) (Nat.le_refl _)
  have hpq := E.pos (n - 1) (Nat.le_refl _)
  have ba0 := E.xr 0 (by omega)
  have ba1 := E.xs 0 (by omega)
  have bz0 := E.xr (n - 2) (by omega)
  have bz1 := E.xs (n - 2) (by omega)
  have hwl := W.nu
  have hwl1 := W.nu1
  have hwl2 := W.nu2
  have hwq := W.qd
  rw [← hq] at bq hpq hwq
  rw [← hX, ← hq]
  obtain ⟨a0, ha0⟩ : ∃ a0, a0 = xE (resF g n) Rw.r (n - 1) 0 := ⟨_, rfl⟩
  obtain ⟨a1, ha1⟩ : ∃ a1, a1 = xE (resF g n) Rw.s (n - 1) 0 := ⟨_, rfl⟩
  obtain ⟨z0, hz0⟩ : ∃ z0, z0 = xE (resF g n) Rw.r (n - 1) (n - 2) := ⟨_, rfl⟩
  obtain ⟨z1, hz1⟩ : ∃ z1, z1 = xE (resF g n) Rw.s (n - 1) (n - 2) := ⟨_, rfl⟩
  rw [← ha0, ← ha1] at gX0
  rw [← hz0, ← hz1] at gXz
  rw [← ha0, ← hz0] at hup
  rw [← ha1, ← hz1] at hdn
  rw [← ha0] at ba0
  rw [← ha1] at ba1
  rw [← hz0] at bz0
  rw [← hz1] at bz1
  have RB := rowC_B hok (show 0 < n by omega)
  have gR0 := getRw (D := R) (i := 0) (by omega)
  rw [hR.2 0 (by omega)] at gR0
  obtain ⟨r0, hr0⟩ : ∃ r0, r0 = rowC g n 0 := ⟨_, rfl⟩
  rw [← hr0] at gR0 RB hup hdn
  have kk : K < 268435454 - 100 := by omega
  have s1 := bd_sz RB.r (by decide)
  have s2 := bd_sz RB.a (by decide)
  have s3 := bd_sz RB.e (by decide)
  have s4 := bd_sz RB.m (by decide)
  have s5 := bd_sz bq (by omega)
  have m1 := times69 r0.r q s1 s5
  have m2 := times69 r0.a z0 s2 (bd_sz bz0 (by omega))
  have m3 := times69 r0.e a0 s3 (bd_sz ba0 (by omega))
  have m4 := times69 r0.m q s4 s5
  have m5 := times69 r0.a z1 s2 (bd_sz bz1 (by omega))
  have m6 := times69 r0.e a1 s3 (bd_sz ba1 (by omega))
  have u1 := minus67 (r0.r * q) (r0.a * z0) (bd_sz (bd_mul RB.r bq) (by omega)) (bd_sz (bd_mul RB.a bz0) (by omega))
  have u2 := minus67 (r0.r * q - r0.a * z0) (r0.e * a0) (bd_sz (bd_sub (bd_mul RB.r bq) (bd_mul RB.a bz0)) (by omega)) (bd_sz (bd_mul RB.e ba0) (by omega))
  have v1 := plus70 (r0.m * q) (r0.a * z1) (bd_sz (bd_mul RB.m bq) (by omega)) (bd_sz (bd_mul RB.a bz1) (by omega))
  have v2 := plus70 (r0.m * q + r0.a * z1) (r0.e * a1) (bd_sz (bd_add (bd_mul RB.m bq) (bd_mul RB.a bz1)) (by omega)) (bd_sz (bd_mul RB.e ba1) (by omega))
  rw [← hup] at u2
  rw [← hdn] at v2
  have t0 := rnd71 (K := 2 * K + 20) hdp W.up W.dn hK2
  have ht0 : rndW (upW g n) (downW g n) = theC g n 0 := by unfold theC; rw [if_pos (.inl rfl)]
  rw [ht0] at t0
  have hth : ∀ k, k < n - 1 → PFun Try.prog 71 [BigA (xE (resF g n) Rw.r (n - 1) k * downW g n + xE (resF g n) Rw.s (n - 1) k * upW g n), BigA (q * downW g n)] (I (theC g n (k + 1))) := fun k hk => by
    have := rnd71 (K := 2 * K + 20) (Int.mul_pos hpq hdp) (hwl k hk) hwq hK2
    have e := thC_last (g := g) (n := n) (i := k) (by omega)
    rw [← hq] at e
    rw [e] at this
    exact this
  obtain ⟨U, hU⟩ : ∃ U, U = upW g n := ⟨_, rfl⟩
  obtain ⟨V, hV⟩ : ∃ V, V = downW g n := ⟨_, rfl⟩
  have bU := W.up
  have bV := W.dn
  rw [← hU] at u2 t0 hth hwl hwl2 bU
  rw [← hV] at v2 t0 hth hwl hwl1 hwq bV
  refine AtCode.le ⟨219, tl [(0, .sl 0 0 n), (2, I (n : Nat)), (3, .sl 1 0 (n + 1)), (5, .ro 10 (R.map RwC)), (8, P2s X), (9, .ptr 2 0 0)], [(0, ⟨19, LA⟩), (1, ⟨1, T1.map fun n => [I n]⟩), (2, ⟨2, [BigC q]⟩)], 3, ⟨[tl [(0, .sl 0 0 n)]], some (.mp none)⟩⟩ (Le.tl (Ls := [[(0, .sl 0 0 n)]]) [(2, 37)] (by simp -dsimp -implicitDefEqProofs only [go_sem, seval]) ?_ (by simp) (by simp [sg]) ⟨by simp -dsimp -implicitDefEqProofs only [go_sem, seval], trivial⟩) ?_
  · simp -dsimp -implicitDefEqProofs only [go_sem, seval]
    exact ⟨renL_cl rfl clA, renL_cl rfl ((clI _).2 trivial), renL_cl rfl (clB1 _)⟩
  have c0n' : (0 : Int) < ((n : Nat) : Int) := by omega
  have cx0 : (0 : Int) < (((X.map P2C).length : Nat) : Int) := by rw [List.length_map, hXl]; exact c01
  refine AtCode.drawB 10 [([], []), ([0], []), ([0, 1], []), ([], [11]), ([], [11]), ([4], [11]), ([3, 4, 5], [11]), ([3, 4, 5, 6], [11]), ([], []), ([], []), ([0, 1, 2, 8, 9], []), ([0, 1, 2, 3, 4, 5, 6, 7, 8, 9, 10], [])] [false, true] (by kernel_rfl) ?_
  simp -dsimp -implicitDefEqProofs only [go_sem, seval, gX0, gXz, c01, wn2, cn2, List.length_map, hXl, Int.toNat_natCast, Int.natCast_nonneg, Nat.zero_add, show (0 : Int) ≤ 0 by decide]
  refine ⟨by kernel_rfl, ?_⟩
  refine AtCode.draw 24 [([], []), ([0], []), ([0, 1], []), ([0, 1, 2], []), ([0, 1, 2, 3], []), ([], []), ([0, 1, 2, 3, 4, 5], []), ([], []), ([7], []), ([7, 8], []), ([7, 8, 9], []), ([], []), ([11], []), ([0, 1, 2, 3, 4, 5, 6, 7, 8, 9, 10, 11, 12], []), ([0, 1, 2, 3, 4, 5, 6, 7, 8, 9, 10, 11, 12, 13], []), ([], []), ([15], []), ([15, 16], []), ([15, 16, 17], []), ([], []), ([19], []), ([0, 1, 2, 3, 4, 5, 6, 7, 8, 9, 10, 11, 12, 13, 14, 15, 16, 17, 18, 19, 20], []), ([0, 1, 2, 3, 4, 5, 6, 7, 8, 9, 10, 11, 12, 13, 14, 15, 16, 17, 18, 19, 20, 21], []), ([], []), ([0, 1, 2, 3, 4, 5, 6, 7, 8, 9, 10, 11, 12, 13, 14, 15, 16, 17, 18, 19, 20, 21, 22, 23], [])] (by kernel_rfl) ?_
  simp -dsimp -implicitDefEqProofs only [go_sem, seval, gR0, c0n', List.length_map, hRl, Int.toNat_natCast, Int.natCast_nonneg, Nat.zero_add, show (0 : Int) ≤ 0 by decide, show (0 : Int) < 2 by decide]
  refine QFn.use _ m1 (by simp -dsimp -implicitDefEqProofs only [go_sem, seval]) ?_
  simp -dsimp -implicitDefEqProofs only [go_sem, seval, gR0, c0n', List.length_map, hRl, Int.toNat_natCast, Int.natCast_nonneg, Nat.zero_add, show (0 : Int) ≤ 0 by decide, show (0 : Int) < 2 by decide, show (0 : Int) ≤ 1 by decide, show (1 : Int) < 2 by decide]
  refine QFn.use _ m2 (by simp -dsimp -implicitDefEqProofs only [go_sem, seval]) ?_
  simp -dsimp -implicitDefEqProofs only [go_sem, seval, gR0, c0n', List.length_map, hRl, Int.toNat_natCast, Int.natCast_nonneg, Nat.zero_add, show (0 : Int) ≤ 0 by decide, show (0 : Int) < 2 by decide, show (0 : Int) ≤ 1 by decide, show (1 : Int) < 2 by decide]
  refine QFn.use _ u1 (by simp -dsimp -implicitDefEqProofs only [go_sem, seval]) ?_
  simp -dsimp -implicitDefEqProofs only [go_sem, seval, gR0, c0n', List.length_map, hRl, Int.toNat_natCast, Int.natCast_nonneg, Nat.zero_add, show (0 : Int) ≤ 0 by decide, show (0 : Int) < 2 by decide, show (0 : Int) ≤ 1 by decide, show (1 : Int) < 2 by decide]
  refine QFn.use _ m3 (by simp -dsimp -implicitDefEqProofs only [go_sem, seval]) ?_
  simp -dsimp -implicitDefEqProofs only [go_sem, seval, gR0, c0n', List.length_map, hRl, Int.toNat_natCast, Int.natCast_nonneg, Nat.zero_add, show (0 : Int) ≤ 0 by decide, show (0 : Int) < 2 by decide, show (0 : Int) ≤ 1 by decide, show (1 : Int) < 2 by decide]
  refine QFn.use _ u2 (by simp -dsimp -implicitDefEqProofs only [go_sem, seval]) ?_
  simp -dsimp -implicitDefEqProofs only [go_sem, seval, gR0, c0n', List.length_map, hRl, Int.toNat_natCast, Int.natCast_nonneg, Nat.zero_add, show (0 : Int) ≤ 0 by decide, show (0 : Int) < 2 by decide, show (0 : Int) ≤ 1 by decide, show (1 : Int) < 2 by decide]
  refine AtCode.draw 23 [([], []), ([0], []), ([0, 1], []), ([0, 1, 2], []), ([], []), ([0, 1, 2, 3, 4], []), ([], []), ([6], []), ([6, 7], []), ([6, 7, 8], []), ([], []), ([10], []), ([0, 1, 2, 3, 4, 5, 6, 7, 8, 9, 10, 11], []), ([0, 1, 2, 3, 4, 5, 6, 7, 8, 9, 10, 11, 12], []), ([], []), ([14], []), ([14, 15], []), ([14, 15, 16], []), ([], []), ([18], []), ([0, 1, 2, 3, 4, 5, 6, 7, 8, 9, 10, 11, 12, 13, 14, 15, 16, 17, 18, 19], []), ([0, 1, 2, 3, 4, 5, 6, 7, 8, 9, 10, 11, 12, 13, 14, 15, 16, 17, 18, 19, 20], []), ([], []), ([0, 1, 2, 3, 4, 5, 6, 7, 8, 9, 10, 11, 12, 13, 14, 15, 16, 17, 18, 19, 20, 21, 22], [])] (by kernel_rfl) ?_
  simp -dsimp -implicitDefEqProofs only [go_sem, seval, gR0, c0n', List.length_map, hRl, Int.toNat_natCast, Int.natCast_nonneg, Nat.zero_add, show (0 : Int) ≤ 0 by decide, show (0 : Int) < 2 by decide, show (0 : Int) ≤ 1 by decide, show (1 : Int) < 2 by decide]
  refine QFn.use _ m4 (by simp -dsimp -implicitDefEqProofs only [go_sem, seval]) ?_
  simp -dsimp -implicitDefEqProofs only [go_sem, seval, gR0, c0n', List.length_map, hRl, Int.toNat_natCast, Int.natCast_nonneg, Nat.zero_add, show (0 : Int) ≤ 0 by decide, show (0 : Int) < 2 by decide, show (0 : Int) ≤ 1 by decide, show (1 : Int) < 2 by decide]
  refine QFn.use _ m5 (by simp -dsimp -implicitDefEqProofs only [go_sem, seval]) ?_
  simp -dsimp -implicitDefEqProofs only [go_sem, seval, gR0, c0n', List.length_map, hRl, Int.toNat_natCast, Int.natCast_nonneg, Nat.zero_add, show (0 : Int) ≤ 0 by decide, show (0 : Int) < 2 by decide, show (0 : Int) ≤ 1 by decide, show (1 : Int) < 2 by decide]
  refine QFn.use _ v1 (by simp -dsimp -implicitDefEqProofs only [go_sem, seval]) ?_
  simp -dsimp -implicitDefEqProofs only [go_sem, seval, gR0, c0n', List.length_map, hRl, Int.toNat_natCast, Int.natCast_nonneg, Nat.zero_add, show (0 : Int) ≤ 0 by decide, show (0 : Int) < 2 by decide, show (0 : Int) ≤ 1 by decide, show (1 : Int) < 2 by decide]
  refine QFn.use _ m6 (by simp -dsimp -implicitDefEqProofs only [go_sem, seval]) ?_
  simp -dsimp -implicitDefEqProofs only [go_sem, seval, gR0, c0n', List.length_map, hRl, Int.toNat_natCast, Int.natCast_nonneg, Nat.zero_add, show (0 : Int) ≤ 0 by decide, show (0 : Int) < 2 by decide, show (0 : Int) ≤ 1 by decide, show (1 : Int) < 2 by decide]
  refine QFn.use _ v2 (by simp -dsimp -implicitDefEqProofs only [go_sem, seval]) ?_
  simp -dsimp -implicitDefEqProofs only [go_sem, seval, gR0, c0n', List.length_map, hRl, Int.toNat_natCast, Int.natCast_nonneg, Nat.zero_add, show (0 : Int) ≤ 0 by decide, show (0 : Int) < 2 by decide, show (0 : Int) ≤ 1 by decide, show (1 : Int) < 2 by decide]
  refine AtFn.pure0 t0 ?_
  simp -dsimp -implicitDefEqProofs only [go_sem, seval, List.length_map, hXl]
  refine ⟨{i : Nat // i ≤ n - 1}, fun i => ⟨219, tl [(0, .sl 0 0 n), (3, .sl 1 0 (n + 1)), (9, .ptr 2 0 0), (12, .ptr 3 0 0), (13, .ptr 4 0 0), (14, .sl 5 0 (i.1 + 1)), (187, P2s X), (188, I ((n - 1 : Nat) : Int)), (189, I i.1)], [(0, ⟨19, LA⟩), (1, ⟨1, T1.map fun n => [I n]⟩), (2, ⟨2, [BigC q]⟩), (3, ⟨2, [BigC U]⟩), (4, ⟨2, [BigC V]⟩), (5, ⟨1, (ThC g n i.1).map fun n => [I n]⟩)], 6, ⟨[tl [(0, .sl 0 0 n)]], some (.mp none)⟩⟩, fun i => n - 1 - i.1,
    ⟨⟨0, Nat.zero_le _⟩, Le.tl (Ls := [[(0, .sl 0 0 n)]]) [(3, 36), (4, 59), (5, 60)] (by simp -dsimp -implicitDefEqProofs only [go_sem, seval]) ?_ (by simp) (by simp [sg]) ⟨by simp -dsimp -implicitDefEqProofs only [go_sem, seval], trivial⟩⟩, fun i => ?_⟩
  · simp -dsimp -implicitDefEqProofs only [go_sem, seval]
    exact ⟨renL_cl rfl clA, renL_cl rfl ((clI _).2 trivial), renL_cl rfl (clB1 _), renL_cl rfl (clB1 _), renL_cl rfl (clB1 _), renL_cl2 rfl ((clI _).2 trivial)⟩
  obtain ⟨i, hi⟩ := i
  simp -dsimp -implicitDefEqProofs only [go_sem, seval]
  refine ⟨fun h12 => ?_, fun h12 => ?_⟩
  · have him : i < n - 1 := by omega
    have e4 : wr (((i : Nat) : Int) + 1) = ((i + 1 : Nat) : Int) := by rw [wr_in] <;> omega
    have ci : ((i : Nat) : Int) < ((n - 1 : Nat) : Int) := by omega
    have gXi := gX i him
    have bc0 := E.xr i him
    have bc1 := E.xs i him
    have hti := hth i him
    have w1' := hwl i him
    have w2' := hwl1 i him
    have w3' := hwl2 i him
    obtain ⟨c0, hc0⟩ : ∃ c0, c0 = xE (resF g n) Rw.r (n - 1) i := ⟨_, rfl⟩
    obtain ⟨c1, hc1⟩ : ∃ c1, c1 = xE (resF g n) Rw.s (n - 1) i := ⟨_, rfl⟩
    rw [← hc0, ← hc1] at gXi hti w1'
    rw [← hc0] at bc0 w2'
    rw [← hc1] at bc1 w3'
    have k1 := times69 c0 V (bd_sz bc0 (by omega)) (bd_sz bV (by omega))
    have k2 := times69 c1 U (bd_sz bc1 (by omega)) (bd_sz bU (by omega))
    have k3 := plus70 (c0 * V) (c1 * U) (bd_sz w2' (by omega)) (bd_sz w3' (by omega))
    have k4 := times69 q V (bd_sz bq (by omega)) (bd_sz bV (by omega))
    have f1 : takeA 0 (i + 1) ((ThC g n i).map fun n => [I n]) = (ThC g n i).map fun n => [I n] := by rw [takeA_eq, List.drop_zero, List.take_of_length_le (by rw [List.length_map, thC_len]; exact Nat.le_refl _)]
    have f2 := thC_app g n i
    have f4 : i + 1 ≤ ((ThC g n i).map fun n => [I n]).length := by rw [List.length_map, thC_len]; exact Nat.le_refl _
    have f5 : ((ThC g n i).map fun n => [I n]).length ≤ 274877906943 := by rw [List.length_map, thC_len]; omega
    have f3 : ((ThC g n (i + 1)).map fun n => [I n]).length = i + 1 + 1 := by rw [List.length_map, thC_len]
    simp -dsimp -implicitDefEqProofs only [go_sem, seval, gXi, ci, Int.toNat_natCast, Int.natCast_nonneg, Nat.zero_add]
    refine AtCode.draw 15 [([], []), ([], []), ([1], []), ([], []), ([1, 2, 3], []), ([], []), ([5], []), ([], []), ([1, 2, 3, 4, 5, 6, 7], []), ([1, 2, 3, 4, 5, 6, 7, 8], []), ([], []), ([], []), ([1, 2, 3, 4, 5, 6, 7, 8, 9, 10, 11], []), ([1, 2, 3, 4, 5, 6, 7, 8, 9, 10, 11, 12], []), ([1, 2, 3, 4, 5, 6, 7, 8, 9, 10, 11, 12, 13], []), ([0, 1, 2, 3, 4, 5, 6, 7, 8, 9, 10, 11, 12, 13, 14], []), ([0, 1, 2, 3, 4, 5, 6, 7, 8, 9, 10, 11, 12, 13, 14, 15], [])] (by kernel_rfl) ?_
    simp -dsimp -implicitDefEqProofs only [go_sem, seval, show (0 : Int) ≤ 0 by decide, show (0 : Int) < 2 by decide, show (0 : Int) ≤ 1 by decide, show (1 : Int) < 2 by decide]
    refine QFn.use _ k1 (by simp -dsimp -implicitDefEqProofs only [go_sem, seval]) ?_
    simp -dsimp -implicitDefEqProofs only [go_sem, seval]
    refine QFn.use _ k2 (by simp -dsimp -implicitDefEqProofs only [go_sem, seval]) ?_
    simp -dsimp -implicitDefEqProofs only [go_sem, seval]
    refine QFn.use _ k3 (by simp -dsimp -implicitDefEqProofs only [go_sem, seval]) ?_
    simp -dsimp -implicitDefEqProofs only [go_sem, seval]
    refine QFn.use _ k4 (by simp -dsimp -implicitDefEqProofs only [go_sem, seval]) ?_
    simp -dsimp -implicitDefEqProofs only [go_sem, seval]
    refine QFn.use _ hti (by simp -dsimp -implicitDefEqProofs only [go_sem, seval]) ?_
    simp -dsimp -implicitDefEqProofs only [go_sem, seval, Int.toNat_natCast, Int.natCast_nonneg, Nat.zero_add, f1, f4, f5, f2, f3, e4]
    refine ⟨⟨i + 1, by omega⟩, by show n - 1 - (i + 1) < n - 1 - i; omega, Le.tl (Ls := [[(0, .sl 0 0 n)]]) [(5, 22)] (by simp -dsimp -implicitDefEqProofs only [go_sem, seval]) ?_ (by simp) (by simp [sg]) ⟨by simp -dsimp -implicitDefEqProofs only [go_sem, seval], trivial⟩⟩
    simp -dsimp -implicitDefEqProofs only [go_sem, seval]
    exact ⟨renL_cl rfl clA, renL_cl rfl ((clI _).2 trivial), renL_cl rfl (clB1 _), renL_cl rfl (clB1 _), renL_cl rfl (clB1 _), renL_cl rfl ((clI _).2 trivial)⟩
  have him : n - 1 = i := by omega
  subst him
  have e1 : n - 1 + 1 = n := by omega
  have gt0 := getI1 (D := ThC g n (n - 1)) (i := 0) (by rw [thC_len]; omega)
  rw [thC_get (Nat.zero_le _)] at gt0
  have f1 : takeA 0 n ((ThC g n (n - 1)).map fun n => [I n]) = (ThC g n (n - 1)).map fun n => [I n] := by rw [takeA_eq, List.drop_zero, List.take_of_length_le (by rw [List.length_map, thC_len]; omega)]
  have f2 := thC_app g n (n - 1)
  rw [e1, show theC g n n = theC g n 0 by unfold theC; rw [if_pos (.inr rfl), if_pos (.inl rfl)]] at f2
  have f4 : n ≤ ((ThC g n (n - 1)).map fun n => [I n]).length := by rw [List.length_map, thC_len]; omega
  have f5 : ((ThC g n (n - 1)).map fun n => [I n]).length ≤ 274877906943 := by rw [List.length_map, thC_len]; omega
  have f3 : ((ThC g n n).map fun n => [I n]).length = n + 1 := by rw [List.length_map, thC_len]
  simp -dsimp -implicitDefEqProofs only [go_sem, seval, e1, gt0, c0n', f1, f2, f3, f4, f5, Int.toNat_natCast, Int.natCast_nonneg, Nat.zero_add, show (0 : Int) ≤ 0 by decide]
  obtain ⟨S, hS⟩ : ∃ S, S = ThC g n n := ⟨_, rfl⟩
  have hSl : S.length = n + 1 := by rw [hS, thC_len]
  have hSj : ∀ j, j ≤ n → S.getD j 0 = theC g n j := fun j hj => by rw [hS]; exact thC_get hj
  rw [← hS]
  refine AtFn.inl 400 [] mixed Try.func72 (by kernel_rfl) rfl (by rw [Try.results72]; rfl) (Nat.le_of_ble_eq_true rfl) ?_; rw [Try.ntmps72]
  simp -dsimp -implicitDefEqProofs only [go_sem, seval]
  refine ⟨{i : Nat // i ≤ n}, fun i => ⟨37, tl [(0, .sl 0 0 n), (1, .sl 2 0 (n + 1)), (2, .sl 1 0 (n + 1)), (8, I (n : Nat)), (9, I i.1)], [(0, ⟨19, (cycI g n i.1).map ArC⟩), (1, ⟨1, T1.map fun n => [I n]⟩), (2, ⟨1, S.map fun n => [I n]⟩)], 3, ⟨[tl [], tl [(0, .sl 0 0 n)]], some (.mp none)⟩⟩, fun i => n - i.1,
    ⟨⟨0, Nat.zero_le _⟩, Le.tl (Ls := [[], [(0, .sl 0 0 n)]]) [(2, 7)] (by simp -dsimp -implicitDefEqProofs only [go_sem, seval]) ?_ (by simp) (by simp [sg]) ⟨by simp -dsimp -implicitDefEqProofs only [go_sem, seval], by simp -dsimp -implicitDefEqProofs only [go_sem, seval], trivial⟩⟩, fun i => ?_⟩
  · simp -dsimp -implicitDefEqProofs only [go_sem, seval]
    exact ⟨renL_cl2 hLA0 ((clArsL _).2 trivial), renL_cl rfl ((clI _).2 trivial), renL_cl rfl ((clI _).2 trivial)⟩
  obtain ⟨i, hi⟩ := i
  simp -dsimp -implicitDefEqProofs only [go_sem, seval]
  refine ⟨fun h12 => ?_, fun h12 => ?_⟩
  · have him : i < n := by omega
    have e4 : wr (((i : Nat) : Int) + 1) = ((i + 1 : Nat) : Int) := by rw [wr_in] <;> omega
    have ci : ((i : Nat) : Int) < ((n : Nat) : Int) := by omega
    have ci2 : ((i : Nat) : Int) < ((n + 1 : Nat) : Int) := by omega
    have ci3 : ((i + 1 : Nat) : Int) < ((n + 1 : Nat) : Int) := by omega
    have gM := getCyc g him
    have gSi := getI1 (D := S) (i := i) (by omega)
    rw [hSj i (by omega)] at gSi
    have gSi1 := getI1 (D := S) (i := i + 1) (by omega)
    rw [hSj (i + 1) (by omega)] at gSi1
    have gTi1 := getI1 (D := T1) (i := i + 1) (by omega)
    rw [hTn (i + 1) (by omega)] at gTi1
    have bt := turnC_b g n (i + 1)
    have ntt : wr (0 - turnC g n (i + 1)) = -(turnC g n (i + 1)) := by rw [wr_in (by omega) (by omega)]; omega
    have hst := setCyc g him
    have gset : ∀ X, (((cycI g n i).map ArC).set i X)[i]? = some X := fun X => by
      rw [List.getElem?_set_self (by have := (List.getElem?_eq_some_iff.1 gM).1; exact this)]
    refine AtCode.drawB 22 [([], []), ([], []), ([], [0]), ([], [0]), ([], []), ([], []), ([4, 5], []), ([4, 5, 6], []), ([], []), ([], []), ([9], []), ([8, 9, 10], []), ([8, 9, 10, 11], []), ([8, 9, 10, 11, 12], [0]), ([], []), ([], []), ([15], []), ([14, 15, 16], []), ([14, 15, 16, 17], []), ([8, 9, 10, 11, 12, 13, 14, 15, 16, 17, 18], [0]), ([0, 1, 4, 5, 6, 7, 8, 9, 10, 11, 12, 14, 15, 16, 17, 18], []), ([0, 1, 4, 5, 6, 7, 8, 9, 10, 11, 12, 14, 15, 16, 17, 18, 20], []), ([0, 1, 4, 5, 6, 7, 8, 9, 10, 11, 12, 14, 15, 16, 17, 18, 20, 21], []), ([0, 1, 2, 3, 4, 5, 6, 7, 8, 9, 10, 11, 12, 13, 14, 15, 16, 17, 18, 19, 20, 21, 22], []), ([0, 1, 2, 3, 4, 5, 6, 7, 8, 9, 10, 11, 12, 13, 14, 15, 16, 17, 18, 19, 20, 21, 22, 23], []), ([0, 1, 2, 3, 4, 5, 6, 7, 8, 9, 10, 11, 12, 13, 14, 15, 16, 17, 18, 19, 20, 21, 22, 23, 24], [])] [false, true, true, true] (by kernel_rfl) ?_
    simp -dsimp -implicitDefEqProofs only [go_sem, seval, gM, gset, gSi, gSi1, gTi1, ntt, e4, ci, ci2, ci3, Int.natCast_nonneg, Int.toNat_natCast, Nat.zero_add, List.set_set]
    refine ⟨by kernel_rfl, ?_⟩
    refine ⟨⟨i + 1, by omega⟩, by show n - (i + 1) < n - i; omega, Le.tl (Ls := [[], [(0, .sl 0 0 n)]]) [] (by simp -dsimp -implicitDefEqProofs only [go_sem, seval, e4]) ?_ (by simp) (by simp [sg]) ⟨by simp -dsimp -implicitDefEqProofs only [go_sem, seval], by simp -dsimp -implicitDefEqProofs only [go_sem, seval], trivial⟩⟩
    simp -dsimp -implicitDefEqProofs only [go_sem, seval]
    exact ⟨renL_cl2 hst ((clArsL _).2 trivial), renL_cl rfl ((clI _).2 trivial), renL_cl rfl ((clI _).2 trivial)⟩
  have him : n = i := by omega
  subst him
  have hne0 : LA ≠ [] := by intro e; rw [e] at hlen; simp at hlen; omega
  have hne1 : (cycI g n n).map ArC ≠ [] := by intro e; have := congrArg List.length e; simp [cyc_len] at this; omega
  refine FinM2.mkv [] [(0, .sl 0 0 n)] ?_ ?_ ?_ ?_ ?_
  · simp -dsimp -implicitDefEqProofs only [go_sem, seval]
    exact renL_cl rfl ((clArsL _).2 trivial)
  · simp
  · simp [sg]
  · simp -dsimp -implicitDefEqProofs only [go_sem, seval]
  · simp only [List.mem_singleton, forall_eq]
    exact ⟨0, 0, n - 1, _, _, by rw [Nat.sub_add_cancel (by omega)]; rfl, by rw [Nat.sub_add_cancel (by omega)]; simp -dsimp -implicitDefEqProofs only [go_sem, seval], rfl, rfl, rfl, hne0, hne1⟩
end

section
set_option maxRecDepth 20000
attribute [local go_sem] eqk27' clKnsL clKns clArsL
set_option maxHeartbeats 4000000 in
theorem solve27w (l : List Ar) (h2 : 2 ≤ l.length) (h3 : l.length ≤ 200) (hok : ∀ k, k < l.length → okG (l.getD k zA)) (hc : ∀ i, i < l.length → cycP l i = true) :
    MFun Try.prog 27 [.sl 0 0 l.length, Bo true] [(0, ⟨19, l.map ArC⟩)] 1 none [0] (.t []) [(0, ⟨19, (wholeW l).map ArC⟩)] 1 none := by
  have hwh := whole46 l h2 h3 hok
  have hwl : (wholeW l).length = l.length := by simp [wholeW]
  have hn0 : ¬ ((l.length : Nat) : Int) = 0 := by omega
  refine MFun.intro2 400 [] mixed Try.func27 (by kernel_rfl) rfl (by rw [Try.results27]; rfl) (Nat.le_of_ble_eq_true rfl) ?_; rw [Try.ntmps27]
  simp -dsimp -implicitDefEqProofs only [go_sem, seval]
  refine ⟨{i : Nat // i ≤ l.length}, fun i => ⟨93, tl [(0, .sl 0 0 l.length), (1, Bo true), (4, I (l.length : Nat)), (5, I i.1)], [(0, ⟨19, l.map ArC⟩)], 1, ⟨[tl [(0, .sl 0 0 l.length)]], some (.mp none)⟩⟩, fun i => l.length - i.1,
    ⟨⟨0, by omega⟩, Le.tl (Ls := [[(0, .sl 0 0 l.length)]]) [] (by simp -dsimp -implicitDefEqProofs only [go_sem, seval]) ?_ (by simp) (by simp [sg]) ⟨by simp -dsimp -implicitDefEqProofs only [go_sem, seval], trivial⟩⟩, fun i => ?_⟩
  · simp -dsimp -implicitDefEqProofs only [go_sem, seval]
    exact renL_cl rfl ((clArsL _).2 trivial)
  obtain ⟨i, hi⟩ := i
  by_cases hil : i < l.length
  · have c1 : (i : Int) < ((l.length : Nat) : Int) := by omega
    have hjl : (i + l.length - 1) % l.length < l.length := Nat.mod_lt _ (by omega)
    have hgi := getAr (l := l) (i := i) hil
    have hgj := getAr hjl
    have e1 : wr ((i : Int) + (l.length : Nat)) = ((i + l.length : Nat) : Int) := by rw [wr_in] <;> omega
    have e2 : wr (((i + l.length : Nat) : Int) - 1) = ((i + l.length - 1 : Nat) : Int) := by rw [wr_in] <;> omega
    have e3 : (((i + l.length - 1 : Nat) : Int)).tmod (l.length : Int) = (((i + l.length - 1) % l.length : Nat) : Int) := tmodN _ _
    have e4 : wr (((i + l.length - 1) % l.length : Nat) : Int) = (((i + l.length - 1) % l.length : Nat) : Int) := wr_in (by omega) (by omega)
    have hgo := goes45 (l.getD ((i + l.length - 1) % l.length) zA) (l.getD i zA)
    have hcy := hc i hil
    unfold cycP at hcy
    rw [hcy] at hgo
    obtain ⟨j, hj⟩ : ∃ j, j = (i + l.length - 1) % l.length := ⟨_, rfl⟩
    rw [← hj] at hjl hgj e3 e4 hgo
    have c2 : (j : Int) < ((l.length : Nat) : Int) := by omega
    have e5 : wr ((i : Int) + 1) = ((i + 1 : Nat) : Int) := by rw [wr_in] <;> omega
    simp -dsimp -implicitDefEqProofs only [go_sem, seval]
    refine AtCode.draw 19 [([], []), ([], []), ([0, 1], []), ([0, 1, 2], []), ([0, 1, 2, 3], []), ([0, 1, 2, 3], []), ([0, 1, 2, 3], []), ([0, 1, 2, 3, 5, 6], []), ([0, 1, 2, 3, 5, 6, 7], []), ([0, 1, 2, 3], []), ([0, 1, 2, 3, 5, 6, 7, 8, 9], []), ([0, 1, 2, 3, 4, 5, 6, 7, 8, 9, 10], []), ([0, 1, 2, 3, 4, 5, 6, 7, 8, 9, 10, 11], []), ([0, 1, 2, 3], []), ([0, 1, 2, 3], []), ([0, 1, 2, 3, 13, 14], []), ([0, 1, 2, 3, 13, 14, 15], []), ([0, 1, 2, 3, 4, 5, 6, 7, 8, 9, 10, 11, 12, 13, 14, 15, 16], []), ([0, 1, 2, 3, 4, 5, 6, 7, 8, 9, 10, 11, 12, 13, 14, 15, 16, 17], [])] (by kernel_rfl) ?_
    simp -dsimp -implicitDefEqProofs only [go_sem, seval, c1, c2, e1, e2, e3, e4, hn0, Int.toNat_natCast, Int.natCast_nonneg, hgi, hgj, Nat.zero_add]
    refine QFn.use _ hgo (by simp -dsimp -implicitDefEqProofs only [go_sem, seval]) ?_
    simp -dsimp -implicitDefEqProofs only [go_sem, seval]
    refine ⟨⟨i + 1, by omega⟩, by show l.length - (i + 1) < l.length - i; omega, Le.tl (Ls := [[(0, .sl 0 0 l.length)]]) [] (by simp -dsimp -implicitDefEqProofs only [go_sem, seval, e5]) ?_ (by simp) (by simp [sg]) ⟨by simp -dsimp -implicitDefEqProofs only [go_sem, seval], trivial⟩⟩
    simp -dsimp -implicitDefEqProofs only [go_sem, seval]
    exact renL_cl rfl ((clArsL _).2 trivial)
  · have c1 : ¬ (i : Int) < ((l.length : Nat) : Int) := by omega
    have c2 : (i : Int) = ((l.length : Nat) : Int) := by omega
    simp -dsimp -implicitDefEqProofs only [go_sem, seval]
    refine AtCode.draw 19 [([], []), ([], []), ([0, 1], []), ([0, 1, 2], []), ([0, 1, 2, 3], []), ([0, 1, 2, 3], []), ([0, 1, 2, 3], []), ([0, 1, 2, 3, 5, 6], []), ([0, 1, 2, 3, 5, 6, 7], []), ([0, 1, 2, 3], []), ([0, 1, 2, 3, 5, 6, 7, 8, 9], []), ([0, 1, 2, 3, 4, 5, 6, 7, 8, 9, 10], []), ([0, 1, 2, 3, 4, 5, 6, 7, 8, 9, 10, 11], []), ([0, 1, 2, 3], []), ([0, 1, 2, 3], []), ([0, 1, 2, 3, 13, 14], []), ([0, 1, 2, 3, 13, 14, 15], []), ([0, 1, 2, 3, 4, 5, 6, 7, 8, 9, 10, 11, 12, 13, 14, 15, 16], []), ([0, 1, 2, 3, 4, 5, 6, 7, 8, 9, 10, 11, 12, 13, 14, 15, 16, 17], [])] (by kernel_rfl) ?_
    have c3 : ¬ ((l.length : Nat) : Int) < ((l.length : Nat) : Int) := by omega
    simp -dsimp -implicitDefEqProofs only [go_sem, seval, c2, c3]
    refine AtFn.le ⟨93, tl [(0, .sl 0 0 l.length), (36, .sl 0 0 l.length)], [(0, ⟨19, l.map ArC⟩)], 1, ⟨[tl [(0, .sl 0 0 l.length)]], some (.mp none)⟩⟩ [.sl 0 0 l.length] (Le.tl (Ls := [[(0, .sl 0 0 l.length)]]) [] (by simp -dsimp -implicitDefEqProofs only [go_sem, seval]) ?_ (by simp) (by simp [sg]) ⟨by simp -dsimp -implicitDefEqProofs only [go_sem, seval], trivial⟩) (by intro fo xs ts h; cases h; exact ⟨by simp -dsimp -implicitDefEqProofs only [go_sem, seval], by simp -dsimp -implicitDefEqProofs only [go_sem, seval]⟩) ?_
    · simp -dsimp -implicitDefEqProofs only [go_sem, seval]
      exact renL_cl rfl ((clArsL _).2 trivial)
    refine AtFn.m' (h0 := [(0, ⟨19, l.map ArC⟩)]) (hr := []) (k' := 1) id hwh (MOk.id (Ls := [[(0, .sl 0 0 l.length)]]) (by simp) (by simp -dsimp -implicitDefEqProofs only [go_sem, seval, id_eq]) ?_ (by simp -dsimp -implicitDefEqProofs only [go_sem, seval, id_eq]) (by simp -dsimp -implicitDefEqProofs only [go_sem, seval, id_eq]) ?_ (by simp) ?_ (.cl (by simp [Cl_t])) (by simp) (by simp) (by simp)) ?_
    · simp -dsimp -implicitDefEqProofs only [go_sem, seval, id_eq]
      exact renL_cl rfl ((clArsL _).2 trivial)
    · simp -dsimp -implicitDefEqProofs only [go_sem, seval, id_eq]
    · simp -dsimp -implicitDefEqProofs only [go_sem, seval, id_eq]
      exact renL_cl rfl ((clArsL _).2 trivial)
    have hne : l.map ArC ≠ [] := by intro e; have := congrArg List.length e; simp at this; rw [this] at h2; simp at h2
    have hne2 : (wholeW l).map ArC ≠ [] := by intro e; have := congrArg List.length e; rw [List.length_map, hwl] at this; have e0 : l.length = 0 := this; omega
    simp -dsimp -implicitDefEqProofs only [go_sem, seval]
    refine FinM2.mkv [] [(0, .sl 0 0 l.length)] ?_ ?_ ?_ ?_ ?_
    · simp -dsimp -implicitDefEqProofs only [go_sem, seval]
      exact renL_cl rfl ((clArsL _).2 trivial)
    · simp
    · simp [sg]
    · simp -dsimp -implicitDefEqProofs only [go_sem, seval]
    · simp only [List.mem_singleton, forall_eq]
      exact ⟨0, 0, l.length - 1, _, _, by rw [Nat.sub_add_cancel (by omega)]; rfl, by rw [Nat.sub_add_cancel (by omega)]; simp -dsimp -implicitDefEqProofs only [go_sem, seval], rfl, rfl, rfl, hne, hne2⟩
theorem slv_whole {l : List Kn} (hv : validK l true = true) (hpos : 1 ≤ segs l true) (hc : ∀ i, i < (arcs0 l true).length → cycP (arcs0 l true) i = true) : Slv l true (wholeW (arcs0 l true)) := by
  have hsg := valid_segs hv
  have hA := arcs0_All hv
  have hal := arcs0_len l true
  have free : ∀ i, i < (arcs0 l true).length → ((arcs0 l true).getD i zA).a.op ≠ 3 := fun i hi => (goes_is (hc i hi)).2.1
  have h2 : 2 ≤ (arcs0 l true).length := by
    refine Decidable.byContradiction fun h => ?_
    have e1 : segs l true = 1 := by omega
    have el : l.length = 1 := e1
    have f0 := free 0 (by omega)
    have S := settled_F hv
    have a0 := (arc_f (settledW l true) 0).a
    rw [arcs0_get (by omega), a0] at f0
    have := S.far 0 (by omega) f0
    rw [el] at this
    exact this ⟨rfl, rfl⟩
  refine ⟨by simp [wholeW, hal], ?_, hpos⟩
  have := solve27w (arcs0 l true) h2 (by omega) (fun k hk => hA.ok k hk (free k hk)) hc
  rwa [hal] at this
end

section
set_option maxRecDepth 20000
def inU (r : Ar) : Prop := (-9223372036854775808 ≤ r.u ∧ r.u ≤ 9223372036854775807) ∧ (-9223372036854775808 ≤ r.v ∧ r.v ≤ 9223372036854775807)
structure ArS (q r : Ar) : Prop where
  fx : r.fx = q.fx
  fy : r.fy = q.fy
  tx : r.tx = q.tx
  ty : r.ty = q.ty
  a : r.a = q.a
  b : r.b = q.b
  iu : inU q → inU r
theorem ArS.rfl' (q : Ar) : ArS q q := ⟨rfl, rfl, rfl, rfl, rfl, rfl, id⟩
def ArL (l r : List Ar) : Prop := r.length = l.length ∧ ∀ k, k < l.length → ArS (l.getD k zA) (r.getD k zA)
theorem ArL.app {l l' r r' : List Ar} (h1 : ArL l r) (h2 : ArL l' r') : ArL (l ++ l') (r ++ r') := by
  refine ⟨by rw [List.length_append, List.length_append, h1.1, h2.1], fun k hk => ?_⟩
  rw [List.length_append] at hk
  simp only [List.getD]
  by_cases h : k < l.length
  · rw [List.getElem?_append_left h, List.getElem?_append_left (by rw [h1.1]; exact h)]
    exact h1.2 k h
  · rw [List.getElem?_append_right (by omega), List.getElem?_append_right (by rw [h1.1]; omega), h1.1]
    exact h2.2 (k - l.length) (by omega)
theorem wr_in64 (a : Int) : -9223372036854775808 ≤ wr a ∧ wr a ≤ 9223372036854775807 := ⟨wr_lo a, wr_hi a⟩
theorem st_S (mid : List Ar) : ArL mid (mid.map stW) := by
  refine ⟨by simp, fun k hk => ?_⟩
  have e : (mid.map stW).getD k zA = stW (mid.getD k zA) := by simp [List.getD, hk]
  rw [e]
  exact ⟨rfl, rfl, rfl, rfl, rfl, rfl, id⟩
theorem open_S (mid : List Ar) : ArL mid (openW mid) := by
  refine ⟨by simp [openW], fun k hk => ?_⟩
  have e : (openW mid).getD k zA = uvA (mid.getD k zA) (theF (fun i => mid.getD i zA) mid.length k) (wr (-(turnF (fun i => mid.getD i zA) mid.length (k + 1)) - theF (fun i => mid.getD i zA) mid.length (k + 1))) := by
    unfold openW
    simp only [List.getD]
    rw [List.getElem?_map, List.getElem?_range hk]; rfl
  rw [e]
  exact ⟨rfl, rfl, rfl, rfl, rfl, rfl, fun _ => ⟨wr_in64 _, wr_in64 _⟩⟩
theorem whole_S (l : List Ar) : ArL l (wholeW l) := by
  refine ⟨by simp [wholeW], fun k hk => ?_⟩
  have e : (wholeW l).getD k zA = uvA (l.getD k zA) (theC (fun i => l.getD i zA) l.length k) (wr (-(turnC (fun i => l.getD i zA) l.length (k + 1)) - theC (fun i => l.getD i zA) l.length (k + 1))) := by
    unfold wholeW
    simp only [List.getD]
    rw [List.getElem?_map, List.getElem?_range hk]; rfl
  rw [e]
  refine ⟨rfl, rfl, rfl, rfl, rfl, rfl, fun _ => ⟨?_, wr_in64 _⟩⟩
  show -9223372036854775808 ≤ theC _ _ _ ∧ theC _ _ _ ≤ 9223372036854775807
  unfold theC
  split <;> exact wr_in64 _
theorem refl_L (l : List Ar) : ArL l l := ⟨rfl, fun k _ => ArS.rfl' _⟩
theorem stretch_S (mid : List Ar) : ArL mid (stretchW mid) := by
  unfold stretchW
  split
  · exact refl_L _
  · split
    · exact st_S _
    · exact open_S _
theorem str_S : ∀ (f : Nat) (L : List Ar), L.length ≤ f → ArL L (strN f L)
  | 0, L, h => by
    have : L = [] := List.eq_nil_of_length_eq_zero (by omega)
    subst this; exact refl_L _
  | _ + 1, [], _ => refl_L _
  | f + 1, x :: xs, h => by
    simp only [List.length_cons] at h
    have ih := str_S f (xs.drop (chainN x xs)) (by rw [List.length_drop]; omega)
    have := (stretch_S (x :: xs.take (chainN x xs))).app ih
    rw [List.cons_append, List.take_append_drop] at this
    exact this
theorem rot_S {l : List Ar} {b : Nat} (hb : b ≤ l.length) : ArL l (rotW l b) := by
  have hs := str_S l.length (l.drop b ++ l.take b) (by simp; omega)
  have hl : (l.drop b ++ l.take b).length = l.length := by simp; omega
  unfold rotW
  obtain ⟨R, hR⟩ : ∃ R, R = strN l.length (l.drop b ++ l.take b) := ⟨_, rfl⟩
  rw [← hR] at hs ⊢
  have hRl : R.length = l.length := by rw [hs.1, hl]
  refine ⟨by simp; omega, fun k hk => ?_⟩
  have e := rot_get (l := R) (b := l.length - b) (i := k) (by omega) (by omega)
  rw [hRl] at e
  rw [e]
  have q := hs.2 (if l.length - b + k < l.length then l.length - b + k else l.length - b + k - l.length) (by rw [hl]; split <;> omega)
  rw [rot_get hb (by split <;> omega)] at q
  have e2 : (if b + (if l.length - b + k < l.length then l.length - b + k else l.length - b + k - l.length) < l.length then b + (if l.length - b + k < l.length then l.length - b + k else l.length - b + k - l.length) else b + (if l.length - b + k < l.length then l.length - b + k else l.length - b + k - l.length) - l.length) = k := by
    split <;> split <;> omega
  rw [e2] at q
  exact q
theorem begW_le (l : List Ar) : begW l ≤ l.length := by have := (begI_F (cycP l) l.length 0).1.2; unfold begW; omega
theorem solve_S (l : List Ar) (c : Bool) : ArL l (solveW l c) := by
  unfold solveW
  split
  · split
    · exact whole_S l
    · exact rot_S (begW_le l)
  · exact rot_S (Nat.zero_le _)
theorem solve_ok {l : List Kn} {c : Bool} (hv : validK l c = true) : ∀ r ∈ solveW (arcs0 l c) c, ArOk r := by
  intro r hr
  obtain ⟨k, hk, rfl⟩ := List.getElem_of_mem hr
  have S := solve_S (arcs0 l c) c
  rw [S.1] at hk
  have e : (solveW (arcs0 l c) c)[k] = (solveW (arcs0 l c) c).getD k zA := by simp [List.getD, S.1, hk]
  rw [e]
  obtain ⟨s1, s2, s3, s4, s5, s6, s7⟩ := S.2 k hk
  have hk' : k < segs l c := by rwa [arcs0_len] at hk
  have hl := (valid_len hv).1
  have hb := settled_b (c := c) (valid_b hv) (by omega)
  have F := arc_f (settledW l c) k
  rw [← arcs0_get hk'] at F
  have hil : k < (settledW l c).length := by rw [settled_len]; have := segs_le (l := l) (c := c); omega
  have hjl : (k + 1) % (settledW l c).length < (settledW l c).length := Nat.mod_lt _ (by omega)
  have b1 := (hb k hil).1
  have b2 := (hb _ hjl).1
  rw [← F.fx, ← F.fy] at b1
  rw [← F.tx, ← F.ty] at b2
  have hu : inU ((arcs0 l c).getD k zA) := ⟨by rw [F.u]; omega, by rw [F.v]; omega⟩
  obtain ⟨u1, u2⟩ := s7 hu
  refine ⟨by rw [s1, s2]; exact b1, by rw [s3, s4]; exact b2, ?_, u1, u2⟩
  rw [s5, s6]
  by_cases h3 : ((arcs0 l c).getD k zA).a.op = 3
  · exact .inl h3
  · have := (arcs0_All hv).ok k hk h3
    exact .inr ⟨this.a1, this.a2, this.b1, this.b2⟩
theorem slvG {l : List Kn} {c : Bool} (hv : validK l c = true) (hpos : 1 ≤ segs l c) : Slv l c (solveW (arcs0 l c) c) := by
  have hsg := valid_segs hv
  have hA := arcs0_All hv
  have hal := arcs0_len l c
  have str : ∀ b, ((c = false ∧ b = 0) ∨ (c = true ∧ b < (arcs0 l c).length ∧ cycP (arcs0 l c) b = false)) → Str ((arcs0 l c).drop b ++ (arcs0 l c).take b) (strN (arcs0 l c).length ((arcs0 l c).drop b ++ (arcs0 l c).take b)) := by
    intro b hb
    have hbl : b ≤ (arcs0 l c).length := by rcases hb with h | h <;> omega
    have hl : ((arcs0 l c).drop b ++ (arcs0 l c).take b).length = (arcs0 l c).length := by simp; omega
    exact str_of _ _ (by omega) (by omega) (rot_Lk hA hb)
  unfold solveW
  cases c with
  | false =>
    rw [if_neg (by decide)]
    exact Slv.of hsg hpos ⟨0, _, .inl ⟨rfl, rfl⟩, str 0 (.inl ⟨rfl, rfl⟩), rfl⟩
  | true =>
    rw [if_pos rfl]
    have B := begI_F (cycP (arcs0 l true)) (arcs0 l true).length 0
    by_cases hw : begW (arcs0 l true) = (arcs0 l true).length
    · rw [if_pos hw]
      exact slv_whole hv hpos fun i hi => B.2.1 i (Nat.zero_le _) (by have : begI (cycP (arcs0 l true)) (arcs0 l true).length 0 = (arcs0 l true).length := hw; omega)
    · rw [if_neg hw]
      have hle := begW_le (arcs0 l true)
      have hf : cycP (arcs0 l true) (begW (arcs0 l true)) = false := B.2.2 (by have : begI (cycP (arcs0 l true)) (arcs0 l true).length 0 = begW (arcs0 l true) := rfl; omega)
      exact Slv.of hsg hpos ⟨begW (arcs0 l true), _, .inr ⟨rfl, by omega, fun i hi => B.2.1 i (Nat.zero_le _) hi, hf⟩, str _ (.inr ⟨rfl, by omega, hf⟩), rfl⟩
end

section
set_option maxRecDepth 20000
attribute [local go_sem] eqk27' clKnsL clKns clArsL clUvR clPtsT clPtsR eqk44'
theorem solve_nil (c : Bool) : solveW [] c = [] := by cases c <;> rfl
theorem chooseG {l : List Kn} {c : Bool} (hv : validK l c = true) : PFun Try.prog 13 [Kns l, Bo c] (chR ((l.getD 0 zK).x, (l.getD 0 zK).y) (segs l c) c (solveW (arcs0 l c) c)) := by
  by_cases h : segs l c = 0
  · have a := choose13_0 l c hv h
    have e : arcs0 l c = [] := arcs0_nil h
    rw [e, solve_nil]
    exact a
  · exact choose13 l c _ hv (slvG hv (by omega)) (solve_ok hv)
theorem ctl3_or (r : Ar) : (ctl3 r).2.2 = 0 ∨ (ctl3 r).2.2 = 17 := by
  have h : ∀ b c, (pt3 b c).2.2 = 0 ∨ (pt3 b c).2.2 = 17 := by
    intro b c
    unfold pt3
    split
    · exact .inl rfl
    · exact .inr rfl
  unfold ctl3
  split
  · exact .inl rfl
  · split <;> exact h _ _
theorem chErr_or : ∀ (rs : List Ar), chErr rs = 0 ∨ chErr rs = 17
  | [] => .inl rfl
  | r :: rs => by
    simp only [chErr]
    split
    · exact chErr_or rs
    · rename_i h; exact .inr ((ctl3_or r).resolve_left h)
structure PtF (l : List Kn) (c : Bool) (pts : List (Int × Int)) : Prop where
  len : pts.length = if c then 3 * segs l c else 3 * segs l c + 1
  pt : ∀ k, k < l.length → pts[3 * k]? = some ((l.getD k zK).x, (l.getD k zK).y)
  fx : ∀ k, k < segs l c → (l.getD k zK).l.op = 3 → pts[3 * k + 1]? = some ((l.getD k zK).l.x, (l.getD k zK).l.y) ∧ pts[3 * k + 2]? = some ((l.getD ((k + 1) % l.length) zK).c.x, (l.getD ((k + 1) % l.length) zK).c.y)
end

section
set_option maxRecDepth 20000
def zc (l : List Kn) (j : Nat) : Prop := (l.getD j zK).l.op ≠ 3 ∧ samePt (l.getD j zK) (l.getD (j + 1) zK)
instance (l : List Kn) (j : Nat) : Decidable (zc l j) := by unfold zc; infer_instance
structure Cut (l : List Kn) (k : Nat) : Prop where
  k1 : 1 ≤ k
  k2 : k + 2 ≤ l.length
  c : (l.getD k zK).c.op ≠ 0
  l : (l.getD k zK).l.op ≠ 0
end

section
set_option maxRecDepth 20000
structure Two (l : List Kn) (k : Nat) : Prop where
  err : chErr (solveW (arcs0 l false) false) = if chErr (solveW (arcs0 (l.take (k + 1)) false) false) = 0 then chErr (solveW (arcs0 (l.drop k) false) false) else chErr (solveW (arcs0 (l.take (k + 1)) false) false)
  pts : chPts (segs l false) false 0 (solveW (arcs0 l false) false) = chPts (segs (l.take (k + 1)) false) false 0 (solveW (arcs0 (l.take (k + 1)) false) false) ++ chPts (segs (l.drop k) false) false 0 (solveW (arcs0 (l.drop k) false) false)
end

section
set_option maxRecDepth 20000
def shS (d : Int × Int) (s : Sd) : Sd := if s.op = 3 then ⟨s.op, s.t, s.v, s.x + d.1, s.y + d.2⟩ else s
def shK (d : Int × Int) (k : Kn) : Kn := ⟨k.x + d.1, k.y + d.2, shS d k.c, shS d k.l⟩
def shA (d : Int × Int) (r : Ar) : Ar := ⟨r.fx + d.1, r.fy + d.2, r.tx + d.1, r.ty + d.2, shS d r.a, shS d r.b, r.far, r.dir, r.u, r.v, r.st⟩
theorem shS_op (d : Int × Int) (s : Sd) : (shS d s).op = s.op := by unfold shS; split <;> rfl
theorem shS_t (d : Int × Int) (s : Sd) : (shS d s).t = s.t := by unfold shS; split <;> rfl
theorem shS_v (d : Int × Int) (s : Sd) : (shS d s).v = s.v := by unfold shS; split <;> rfl
theorem shS_not {d : Int × Int} {s : Sd} (h : s.op ≠ 3) : shS d s = s := by unfold shS; rw [if_neg h]
theorem shS_3 {d : Int × Int} {s : Sd} (h : s.op = 3) : (shS d s).x = s.x + d.1 ∧ (shS d s).y = s.y + d.2 := by unfold shS; rw [if_pos h]; exact ⟨rfl, rfl⟩
theorem getD_mapK {d : Int × Int} {l : List Kn} {i : Nat} (h : i < l.length) : (l.map (shK d)).getD i zK = shK d (l.getD i zK) := by simp [List.getD, h]
theorem getD_mapA {d : Int × Int} {l : List Ar} {i : Nat} (h : i < l.length) : (l.map (shA d)).getD i zA = shA d (l.getD i zA) := by simp [List.getD, h]
theorem s1_map {d : Int × Int} {l : List Kn} {k : Nat} (hk : k < l.length) : s1 (l.map (shK d)) k = (s1 l k).map (shK d) := by
  have hj : (k + 1) % l.length < l.length := Nat.mod_lt _ (by omega)
  have hc : s1C (l.map (shK d)) k ↔ s1C l k := by
    unfold s1C samePt
    rw [List.length_map, getD_mapK hk, getD_mapK hj]
    simp only [shK, shS_op]
    omega
  have hA : s1A (l.map (shK d)) k = (s1A l k).map (shK d) := by
    unfold s1A
    rw [List.length_map, getD_mapK hk, getD_mapK hj, List.map_set]
    congr 1
  have hAl : (s1A l k).length = l.length := by unfold s1A; simp
  unfold s1
  by_cases h : s1C l k
  · rw [if_pos h, if_pos (hc.2 h), hA, List.length_map, getD_mapK hj]
    unfold s1B
    rw [getD_mapK (by omega), List.map_set]
    congr 1
  · rw [if_neg h, if_neg (fun g => h (hc.1 g))]
theorem s1N_map {d : Int × Int} {l : List Kn} : ∀ i, i ≤ l.length → s1N i (l.map (shK d)) = (s1N i l).map (shK d)
  | 0, _ => rfl
  | i + 1, hi => by
    simp only [s1N]
    rw [s1N_map i (by omega), s1_map (by rw [s1N_len]; omega)]
theorem like_sh {d : Int × Int} {o s : Sd} {x y x' y' : Int} (h : s.op = 3 → x' = x ∧ y' = y) : likeW (shS d o) (shS d s) x' y' = shS d (likeW o s x y) := by
  unfold likeW
  rw [shS_op, shS_op]
  by_cases h0 : o.op = 0
  · rw [if_pos h0, if_pos h0, shS_not (by omega)]
    by_cases h1 : s.op = 0
    · rw [if_pos h1, if_pos h1, shS_not (by omega)]
    · rw [if_neg h1, if_neg h1]
      by_cases h3 : s.op = 3
      · rw [if_pos h3, if_pos h3, (h h3).1, (h h3).2]
        split
        · rw [shS_not (by show (2 : Int) ≠ 3; decide)]
        · rw [shS_not (by show (1 : Int) ≠ 3; decide)]
      · rw [if_neg h3, if_neg h3, shS_v, shS_not (s := ⟨s.op, o.t, s.v, o.x, o.y⟩) h3]
  · rw [if_neg h0, if_neg h0]
theorem s2_sh (d : Int × Int) (k : Kn) : s2 (shK d k) = shK d (s2 k) := by
  show (⟨k.x + d.1, k.y + d.2, likeW (shS d k.c) (shS d k.l) ((shS d k.l).x - (k.x + d.1)) ((shS d k.l).y - (k.y + d.2)), likeW (shS d k.l) (shS d k.c) ((k.x + d.1) - (shS d k.c).x) ((k.y + d.2) - (shS d k.c).y)⟩ : Kn) = ⟨k.x + d.1, k.y + d.2, shS d (likeW k.c k.l (k.l.x - k.x) (k.l.y - k.y)), shS d (likeW k.l k.c (k.x - k.c.x) (k.y - k.c.y))⟩
  have e1 := like_sh (d := d) (o := k.c) (s := k.l) (x := k.l.x - k.x) (y := k.l.y - k.y) (x' := (shS d k.l).x - (k.x + d.1)) (y' := (shS d k.l).y - (k.y + d.2)) (fun h => by rw [(shS_3 h).1, (shS_3 h).2]; exact ⟨by omega, by omega⟩)
  have e2 := like_sh (d := d) (o := k.l) (s := k.c) (x := k.x - k.c.x) (y := k.y - k.c.y) (x' := (k.x + d.1) - (shS d k.c).x) (y' := (k.y + d.2) - (shS d k.c).y) (fun h => by rw [(shS_3 h).1, (shS_3 h).2]; exact ⟨by omega, by omega⟩)
  rw [e1, e2]
theorem s2N_map {d : Int × Int} (c : Bool) {l : List Kn} : ∀ i, i ≤ l.length → s2N c i (l.map (shK d)) = (s2N c i l).map (shK d)
  | 0, _ => rfl
  | i + 1, hi => by
    simp only [s2N, List.length_map]
    have ih := s2N_map (d := d) c (l := l) i (by omega)
    rw [ih]
    split
    · rfl
    · rw [getD_mapK (by rw [s2N_len]; omega), List.map_set, s2_sh]
theorem opn_sh (d : Int × Int) (o : Sd) : opnW (shS d o) = shS d (opnW o) := by
  unfold opnW
  rw [shS_op]
  by_cases h : o.op = 0
  · rw [if_pos h, if_pos h, shS_not (by omega), shS_not (by show (2 : Int) ≠ 3; decide)]
  · rw [if_neg h, if_neg h]
theorem s3_map {d : Int × Int} (c : Bool) {l : List Kn} (hl : 0 < l.length) : s3 c (l.map (shK d)) = (s3 c l).map (shK d) := by
  have hA : s3A (l.map (shK d)) = (s3A l).map (shK d) := by
    unfold s3A
    rw [getD_mapK hl, List.map_set]
    congr 1
    simp only [shK, opn_sh]
  have hAl : (s3A l).length = l.length := by unfold s3A; simp
  unfold s3
  split
  · rfl
  · rw [hA]
    unfold s3B
    rw [List.length_map, getD_mapK (by omega), List.map_set]
    congr 1
    simp only [shK, opn_sh]
theorem segs_map (d : Int × Int) (l : List Kn) (c : Bool) : segs (l.map (shK d)) c = segs l c := by unfold segs; rw [List.length_map]
theorem settled_map {d : Int × Int} (c : Bool) {l : List Kn} (hl : 0 < l.length) : settledW (l.map (shK d)) c = (settledW l c).map (shK d) := by
  unfold settledW
  rw [segs_map, List.length_map, s1N_map _ segs_le]
  have e := s2N_map (d := d) c (l := s1N (segs l c) l) l.length (by rw [s1N_len]; exact Nat.le_refl _)
  rw [e, s3_map c (by rw [s2N_len, s1N_len]; exact hl)]
theorem arcW_sh {d : Int × Int} {l : List Kn} {i : Nat} (hi : i < l.length) : arcW (l.map (shK d)) i = shA d (arcW l i) := by
  have hj : (i + 1) % l.length < l.length := Nat.mod_lt _ (by omega)
  unfold arcW
  rw [List.length_map, getD_mapK hi, getD_mapK hj]
  simp only [shK, shS_op]
  split
  · rfl
  · unfold shA
    simp only [Int.add_sub_add_right]
theorem arcs0_map {d : Int × Int} (c : Bool) {l : List Kn} (hl : 0 < l.length) : arcs0 (l.map (shK d)) c = (arcs0 l c).map (shA d) := by
  unfold arcs0 arcsW
  rw [settled_map c hl, segs_map, List.map_map]
  refine List.map_congr_left fun i hi => ?_
  have := List.mem_range.1 hi
  rw [segs_set] at this
  exact arcW_sh (by rw [settled_len]; have := segs_le (l := l) (c := c); omega)
structure EqC (r q : Ar) : Prop where
  ao : q.a.op = r.a.op
  at_ : q.a.t = r.a.t
  av : q.a.v = r.a.v
  bo : q.b.op = r.b.op
  bt : q.b.t = r.b.t
  bv : q.b.v = r.b.v
  far : q.far = r.far
  dir : q.dir = r.dir
theorem EqC_sh (d : Int × Int) (r : Ar) : EqC r (shA d r) := ⟨shS_op _ _, shS_t _ _, shS_v _ _, shS_op _ _, shS_t _ _, shS_v _ _, rfl, rfl⟩
theorem EqC_get (d : Int × Int) (l : List Ar) (i : Nat) : EqC (l.getD i zA) ((l.map (shA d)).getD i zA) := by
  by_cases h : i < l.length
  · rw [getD_mapA h]; exact EqC_sh _ _
  · have e1 : l.getD i zA = zA := by simp [List.getD, List.getElem?_eq_none (show l.length ≤ i by omega)]
    have e2 : (l.map (shA d)).getD i zA = zA := by simp [List.getD, List.getElem?_eq_none (show l.length ≤ i by omega)]
    rw [e1, e2]; exact ⟨rfl, rfl, rfl, rfl, rfl, rfl, rfl, rfl⟩
section
variable {g g' : Nat → Ar} (h : ∀ i, EqC (g i) (g' i))
include h
theorem inn_eq (i j : Nat) (p n : Int) : innW (g' i) (g' j) p n = innW (g i) (g j) p n := by
  unfold innW
  simp only [(h i).at_, (h i).bt, (h i).far, (h j).at_, (h j).bt, (h j).far]
theorem turnF_eq (m j : Nat) : turnF g' m j = turnF g m j := by
  unfold turnF
  rw [(h j).dir, (h (j - 1)).dir]
theorem rowF_eq (m : Nat) : rowF g' m = rowF g m := by
  funext i
  unfold rowF
  simp only [inn_eq h, turnF_eq h, (h 0).ao, (h 0).at_, (h 0).av, (h 0).bt, (h 0).dir, (h (m - 1)).bo, (h (m - 1)).bt, (h (m - 1)).bv, (h (m - 1)).at_, (h (m - 1)).dir]
theorem theF_eq (m k : Nat) : theF g' m k = theF g m k := by unfold theF; rw [rowF_eq h]
theorem turnC_eq (n j : Nat) : turnC g' n j = turnC g n j := by
  unfold turnC
  rw [(h 0).dir, (h (n - 1)).dir, (h j).dir, (h (j - 1)).dir]
theorem rowC_eq (n k : Nat) : rowC g' n k = rowC g n k := by
  unfold rowC
  rw [inn_eq h, turnC_eq h, turnC_eq h]
theorem resF_eq' (n : Nat) : resF g' n = resF g n := by
  funext k
  unfold resF
  simp only [rowC_eq h]
theorem theC_eq (n k : Nat) : theC g' n k = theC g n k := by
  have hu : upW g' n = upW g n := by unfold upW; rw [rowC_eq h, resF_eq' h]
  have hd : downW g' n = downW g n := by unfold downW; rw [rowC_eq h, resF_eq' h]
  unfold theC
  rw [hu, hd, resF_eq' h]
end
theorem open_sh (d : Int × Int) (mid : List Ar) : openW (mid.map (shA d)) = (openW mid).map (shA d) := by
  unfold openW
  rw [List.length_map, List.map_map]
  refine List.map_congr_left fun k hk => ?_
  have hk := List.mem_range.1 hk
  have h : ∀ i, EqC (mid.getD i zA) ((mid.map (shA d)).getD i zA) := EqC_get d mid
  have e1 := theF_eq (g := fun i => mid.getD i zA) (g' := fun i => (mid.map (shA d)).getD i zA) h mid.length
  have e2 := turnF_eq (g := fun i => mid.getD i zA) (g' := fun i => (mid.map (shA d)).getD i zA) h mid.length
  rw [e1, e1, e2, getD_mapA hk]
  rfl
theorem whole_sh (d : Int × Int) (l : List Ar) : wholeW (l.map (shA d)) = (wholeW l).map (shA d) := by
  unfold wholeW
  rw [List.length_map, List.map_map]
  refine List.map_congr_left fun k hk => ?_
  have hk := List.mem_range.1 hk
  have h : ∀ i, EqC (l.getD i zA) ((l.map (shA d)).getD i zA) := EqC_get d l
  have e1 := theC_eq (g := fun i => l.getD i zA) (g' := fun i => (l.map (shA d)).getD i zA) h l.length
  have e2 := turnC_eq (g := fun i => l.getD i zA) (g' := fun i => (l.map (shA d)).getD i zA) h l.length
  rw [e1, e1, e2, getD_mapA hk]
  rfl
theorem goes_sh (d : Int × Int) (x y : Ar) : goesW (shA d x) (shA d y) = goesW x y := by
  unfold goesW
  simp only [shA, shS_op]
theorem chain_sh (d : Int × Int) : ∀ (x : Ar) (xs : List Ar), chainN (shA d x) (xs.map (shA d)) = chainN x xs
  | _, [] => rfl
  | x, y :: r => by simp only [List.map_cons, chainN, goes_sh, chain_sh d y r]
theorem stretch_sh (d : Int × Int) (mid : List Ar) : stretchW (mid.map (shA d)) = (stretchW mid).map (shA d) := by
  have h := EqC_get d mid 0
  have hs : soloP (mid.map (shA d)) ↔ soloP mid := by
    unfold soloP
    rw [List.length_map, h.ao, h.bo]
  unfold stretchW
  rw [h.ao]
  split
  · rfl
  · by_cases q : soloP mid
    · rw [if_pos q, if_pos (hs.2 q), List.map_map, List.map_map]; rfl
    · rw [if_neg q, if_neg (fun g => q (hs.1 g)), open_sh]
theorem strN_sh (d : Int × Int) : ∀ (f : Nat) (L : List Ar), strN f (L.map (shA d)) = (strN f L).map (shA d)
  | 0, _ => rfl
  | _ + 1, [] => rfl
  | f + 1, x :: xs => by
    simp only [List.map_cons, strN]
    rw [chain_sh, ← List.map_take, ← List.map_drop, ← List.map_cons, stretch_sh, strN_sh d f, List.map_append]
theorem rot_sh (d : Int × Int) (l : List Ar) (b : Nat) : rotW (l.map (shA d)) b = (rotW l b).map (shA d) := by
  unfold rotW
  rw [List.length_map, ← List.map_drop, ← List.map_take, ← List.map_append, strN_sh, ← List.map_drop, ← List.map_take, ← List.map_append]
theorem beg_sh (d : Int × Int) (l : List Ar) : begW (l.map (shA d)) = begW l := by
  have hc : cycP (l.map (shA d)) = cycP l := by
    funext i
    unfold cycP goesW
    rw [List.length_map]
    have h1 := EqC_get d l ((i + l.length - 1) % l.length)
    have h2 := EqC_get d l i
    rw [h1.ao, h2.ao, h1.bo]
  unfold begW
  rw [hc, List.length_map]
theorem solve_sh (d : Int × Int) (l : List Ar) (c : Bool) : solveW (l.map (shA d)) c = (solveW l c).map (shA d) := by
  unfold solveW
  rw [beg_sh, List.length_map, whole_sh, rot_sh, rot_sh]
  split
  · split <;> rfl
  · rfl
def adP (d p : Int × Int) : Int × Int := (p.1 + d.1, p.2 + d.2)
theorem pt3_sh {d b c b' c' : Int × Int} (hb : b' = adP d b) (hc : c' = adP d c) (h : (pt3 b c).2.2 = 0) (h' : (pt3 b' c').2.2 = 0) : (pt3 b' c').1 = adP d (pt3 b c).1 ∧ (pt3 b' c').2.1 = adP d (pt3 b c).2.1 := by
  unfold pt3 at *
  split at h
  · split at h'
    · rename_i h1 h2
      rw [if_pos h1, if_pos h2]; exact ⟨hb, hc⟩
    · exact absurd h' (by decide)
  · exact absurd h (by decide)
theorem ctl3_sh {d : Int × Int} {r : Ar} (hb : r.a.op = 3 → r.b.op = 3) (h : (ctl3 r).2.2 = 0) (h' : (ctl3 (shA d r)).2.2 = 0) : (ctl3 (shA d r)).1 = adP d (ctl3 r).1 ∧ (ctl3 (shA d r)).2.1 = adP d (ctl3 r).2.1 := by
  have ho : (shA d r).a.op = r.a.op := shS_op _ _
  unfold ctl3 at *
  rw [ho] at h' ⊢
  by_cases h3 : r.a.op = 3
  · rw [if_pos h3, if_pos h3]
    have e1 := shS_3 (d := d) h3
    have e2 := shS_3 (d := d) (hb h3)
    exact ⟨Prod.ext e1.1 e1.2, Prod.ext e2.1 e2.2⟩
  · rw [if_neg h3] at h h' ⊢
    rw [if_neg h3]
    have hst : (shA d r).st = r.st := rfl
    rw [hst] at h' ⊢
    have ht : (shA d r).a.t = r.a.t := shS_t _ _
    have ht2 : (shA d r).b.t = r.b.t := shS_t _ _
    by_cases s : r.st = true
    · rw [if_pos s] at h h' ⊢
      rw [if_pos s]
      have := pt3_sh (d := d) (b := stB r) (c := stC r) (b' := stB (shA d r)) (c' := stC (shA d r)) (by
        unfold stB adP
        rw [ht]
        simp only [shA, Int.add_sub_add_right]
        exact Prod.ext (by simp only; omega) (by simp only; omega)) (by
        unfold stC adP
        rw [ht2]
        simp only [shA, Int.add_sub_add_right]
        exact Prod.ext (by simp only; omega) (by simp only; omega)) h h'
      exact this
    · rw [if_neg s] at h h' ⊢
      rw [if_neg s]
      rw [ht, ht2] at h' ⊢
      have := pt3_sh (d := d) (b := alB (r.fx, r.fy) (r.tx, r.ty) (circW r.u) (circW r.v) r.a.t) (c := alC (r.fx, r.fy) (r.tx, r.ty) (circW r.u) (circW r.v) r.b.t) (b' := alB ((shA d r).fx, (shA d r).fy) ((shA d r).tx, (shA d r).ty) (circW (shA d r).u) (circW (shA d r).v) r.a.t) (c' := alC ((shA d r).fx, (shA d r).fy) ((shA d r).tx, (shA d r).ty) (circW (shA d r).u) (circW (shA d r).v) r.b.t) (by
        unfold alB adP
        simp only [shA, Int.add_sub_add_right]
        exact Prod.ext (by simp only; omega) (by simp only; omega)) (by
        unfold alC adP
        simp only [shA, Int.add_sub_add_right]
        exact Prod.ext (by simp only; omega) (by simp only; omega)) h h'
      exact this
end

section
set_option maxRecDepth 20000
attribute [local go_sem] eqk27' clKnsL clKns clPtsT clPtsR
def movS (d : Int × Int) (s : Sd) : Sd := if s.op = 3 then ⟨s.op, s.t, s.v, wr (s.x + d.1), wr (s.y + d.2)⟩ else s
def movK (d : Int × Int) (k : Kn) : Kn := ⟨wr (k.x + d.1), wr (k.y + d.2), movS d k.c, movS d k.l⟩
set_option maxHeartbeats 4000000 in
theorem moved23 (l : List Kn) (d : Int × Int) (hl : l.length < 2 ^ 30) (h1 : 1 ≤ l.length) : PFun Try.prog 23 [Kns l, Pt d] (Kns (l.map (movK d))) := by
  obtain ⟨n, hn⟩ : ∃ n, n = l.length := ⟨_, rfl⟩
  refine PFun.intro 400 mixed Try.func23 (by kernel_rfl) rfl (((clKns _).2 trivial)) (Nat.le_of_ble_eq_true rfl) ?_; rw [Try.ntmps23, Try.results23]
  simp -dsimp -implicitDefEqProofs only [go_sem, seval, List.length_map, ← hn]
  refine ⟨{i : Nat // i ≤ n}, fun i => ⟨76, tl [(3, .ptr 0 0 0), (5, .sl 1 0 i.1), (8, Kns l), (9, I (n : Nat)), (10, I i.1)], [(0, ⟨2, [[I d.1, I d.2]]⟩), (1, ⟨12, ((l.take i.1).map (movK d)).map KnC⟩)], 2, .nil⟩, fun i => n - i.1,
    ⟨⟨0, by omega⟩, Le.tl0 (Ls := []) (y := none) [] (by simp -dsimp -implicitDefEqProofs only [go_sem, seval]) ?_ (by simp) (by simp [sg]) trivial⟩, fun i => ?_⟩
  · simp -dsimp -implicitDefEqProofs only [go_sem, seval]
    exact renL_cl rfl (by simp -dsimp -implicitDefEqProofs only [go_sem, seval])
  obtain ⟨i, hi⟩ := i
  simp -dsimp -implicitDefEqProofs only [go_sem, seval]
  refine ⟨fun h0 => ?_, fun hout => ?_⟩
  · have hin : i < n := by omega
    have e3 : wr ((i : Int) + 1) = ((i + 1 : Nat) : Int) := by rw [wr_in] <;> omega
    have c1 : (i : Int) < ((n : Nat) : Int) := by omega
    have hg := getKn (l := l) (i := i) (by omega)
    have hga : l[i]? = some (l.getD i zK) := getK (by omega)
    obtain ⟨z, hz⟩ : ∃ z, z = l.getD i zK := ⟨_, rfl⟩
    rw [← hz] at hg hga
    have f1 : takeA 0 i (((l.take i).map (movK d)).map KnC) = ((l.take i).map (movK d)).map KnC := by rw [takeA_eq, List.drop_zero, List.take_of_length_le (by simp; omega)]
    have f3 : (((l.take (i + 1)).map (movK d)).map KnC).length = i + 1 := by simp; omega
    have f4 : i ≤ (((l.take i).map (movK d)).map KnC).length := by simp; omega
    have f5 : (((l.take i).map (movK d)).map KnC).length ≤ 274877906943 := by simp; omega
    by_cases hc3 : z.c.op = 3
    · by_cases hl3 : z.l.op = 3
      · skip
        have hmov : KnC (movK d z) = [I (wr (z.x + d.1)), I (wr (z.y + d.2)), I (3), I z.c.t, I z.c.v, I (wr (z.c.x + d.1)), I (wr (z.c.y + d.2)), I (3), I z.l.t, I z.l.v, I (wr (z.l.x + d.1)), I (wr (z.l.y + d.2))] := by simp [movK, movS, hc3, hl3]
        have f2 : ((l.take i).map (movK d)).map KnC ++ [[I (wr (z.x + d.1)), I (wr (z.y + d.2)), I (3), I z.c.t, I z.c.v, I (wr (z.c.x + d.1)), I (wr (z.c.y + d.2)), I (3), I z.l.t, I z.l.v, I (wr (z.l.x + d.1)), I (wr (z.l.y + d.2))]] = ((l.take (i + 1)).map (movK d)).map KnC := by
          rw [← hmov, List.take_add_one, hga, List.map_append, List.map_append]; rfl
        simp -dsimp -implicitDefEqProofs only [go_sem, seval, c1, Int.toNat_natCast, Int.natCast_nonneg, Nat.zero_add, hg, f1, f2, f3, f4, f5, hc3, hl3]
        refine ⟨⟨i + 1, by omega⟩, by show n - (i + 1) < n - i; omega, Le.tl (Ls := []) (y := none) [(1, 4)] (by simp -dsimp -implicitDefEqProofs only [go_sem, seval, e3]) ?_ (by simp) (by simp [sg]) trivial⟩
        simp -dsimp -implicitDefEqProofs only [go_sem, seval]
        exact ⟨renL_cl rfl (by simp -dsimp -implicitDefEqProofs only [go_sem, seval]), renL_cl rfl ((clKnsL _).2 trivial)⟩
      · skip
        have hmov : KnC (movK d z) = [I (wr (z.x + d.1)), I (wr (z.y + d.2)), I (3), I z.c.t, I z.c.v, I (wr (z.c.x + d.1)), I (wr (z.c.y + d.2)), I (z.l.op), I z.l.t, I z.l.v, I (z.l.x), I (z.l.y)] := by simp [movK, movS, hc3, hl3]
        have f2 : ((l.take i).map (movK d)).map KnC ++ [[I (wr (z.x + d.1)), I (wr (z.y + d.2)), I (3), I z.c.t, I z.c.v, I (wr (z.c.x + d.1)), I (wr (z.c.y + d.2)), I (z.l.op), I z.l.t, I z.l.v, I (z.l.x), I (z.l.y)]] = ((l.take (i + 1)).map (movK d)).map KnC := by
          rw [← hmov, List.take_add_one, hga, List.map_append, List.map_append]; rfl
        simp -dsimp -implicitDefEqProofs only [go_sem, seval, c1, Int.toNat_natCast, Int.natCast_nonneg, Nat.zero_add, hg, f1, f2, f3, f4, f5, hc3, hl3]
        refine ⟨⟨i + 1, by omega⟩, by show n - (i + 1) < n - i; omega, Le.tl (Ls := []) (y := none) [(1, 4)] (by simp -dsimp -implicitDefEqProofs only [go_sem, seval, e3]) ?_ (by simp) (by simp [sg]) trivial⟩
        simp -dsimp -implicitDefEqProofs only [go_sem, seval]
        exact ⟨renL_cl rfl (by simp -dsimp -implicitDefEqProofs only [go_sem, seval]), renL_cl rfl ((clKnsL _).2 trivial)⟩
    · by_cases hl3 : z.l.op = 3
      · skip
        have hmov : KnC (movK d z) = [I (wr (z.x + d.1)), I (wr (z.y + d.2)), I (z.c.op), I z.c.t, I z.c.v, I (z.c.x), I (z.c.y), I (3), I z.l.t, I z.l.v, I (wr (z.l.x + d.1)), I (wr (z.l.y + d.2))] := by simp [movK, movS, hc3, hl3]
        have f2 : ((l.take i).map (movK d)).map KnC ++ [[I (wr (z.x + d.1)), I (wr (z.y + d.2)), I (z.c.op), I z.c.t, I z.c.v, I (z.c.x), I (z.c.y), I (3), I z.l.t, I z.l.v, I (wr (z.l.x + d.1)), I (wr (z.l.y + d.2))]] = ((l.take (i + 1)).map (movK d)).map KnC := by
          rw [← hmov, List.take_add_one, hga, List.map_append, List.map_append]; rfl
        simp -dsimp -implicitDefEqProofs only [go_sem, seval, c1, Int.toNat_natCast, Int.natCast_nonneg, Nat.zero_add, hg, f1, f2, f3, f4, f5, hc3, hl3]
        refine ⟨⟨i + 1, by omega⟩, by show n - (i + 1) < n - i; omega, Le.tl (Ls := []) (y := none) [(1, 4)] (by simp -dsimp -implicitDefEqProofs only [go_sem, seval, e3]) ?_ (by simp) (by simp [sg]) trivial⟩
        simp -dsimp -implicitDefEqProofs only [go_sem, seval]
        exact ⟨renL_cl rfl (by simp -dsimp -implicitDefEqProofs only [go_sem, seval]), renL_cl rfl ((clKnsL _).2 trivial)⟩
      · skip
        have hmov : KnC (movK d z) = [I (wr (z.x + d.1)), I (wr (z.y + d.2)), I (z.c.op), I z.c.t, I z.c.v, I (z.c.x), I (z.c.y), I (z.l.op), I z.l.t, I z.l.v, I (z.l.x), I (z.l.y)] := by simp [movK, movS, hc3, hl3]
        have f2 : ((l.take i).map (movK d)).map KnC ++ [[I (wr (z.x + d.1)), I (wr (z.y + d.2)), I (z.c.op), I z.c.t, I z.c.v, I (z.c.x), I (z.c.y), I (z.l.op), I z.l.t, I z.l.v, I (z.l.x), I (z.l.y)]] = ((l.take (i + 1)).map (movK d)).map KnC := by
          rw [← hmov, List.take_add_one, hga, List.map_append, List.map_append]; rfl
        simp -dsimp -implicitDefEqProofs only [go_sem, seval, c1, Int.toNat_natCast, Int.natCast_nonneg, Nat.zero_add, hg, f1, f2, f3, f4, f5, hc3, hl3]
        refine ⟨⟨i + 1, by omega⟩, by show n - (i + 1) < n - i; omega, Le.tl (Ls := []) (y := none) [(1, 4)] (by simp -dsimp -implicitDefEqProofs only [go_sem, seval, e3]) ?_ (by simp) (by simp [sg]) trivial⟩
        simp -dsimp -implicitDefEqProofs only [go_sem, seval]
        exact ⟨renL_cl rfl (by simp -dsimp -implicitDefEqProofs only [go_sem, seval]), renL_cl rfl ((clKnsL _).2 trivial)⟩
  · have : i = n := by omega
    subst this
    have f1 : (l.take i).map (movK d) = l.map (movK d) := by rw [List.take_of_length_le (by omega)]
    have f2 : takeA 0 i ((l.map (movK d)).map KnC) = (l.map (movK d)).map KnC := by rw [takeA_eq, List.drop_zero, List.take_of_length_le (by simp; omega)]
    rw [f1]
    simp -dsimp -implicitDefEqProofs only [go_sem, seval, f2, List.length_map]
    rw [if_pos (by simp; omega)]
theorem moved23_0 (d : Int × Int) : PFun Try.prog 23 [Kns [], Pt d] nilS := by
  refine PFun.intro 400 mixed Try.func23 (by kernel_rfl) rfl (by first | exact .v _ | (simp [Cl_v, Cl_t, Cl_g, Cl_fn, Cl_rp, Cl_ro]; done) | (simp [Cl_v, Cl_t, Cl_g, Cl_fn, Cl_rp, Cl_ro, or_imp, forall_and]; done) | (split <;> simp [Cl_v, Cl_t, Cl_g, Cl_fn, Cl_rp, Cl_ro])) (Nat.le_of_ble_eq_true rfl) ?_; rw [Try.ntmps23, Try.results23]
  simp -dsimp -implicitDefEqProofs only [go_sem, seval]
  refine ⟨Unit, fun _ => ⟨76, tl [(5, nilS), (9, I 0), (10, I 0)], [], 0, .nil⟩, fun _ => 0, ⟨(), Le.tl (Ls := []) (y := none) [] (by simp -dsimp -implicitDefEqProofs only [go_sem, seval]) (by simp) (by simp) (by simp) trivial⟩, fun _ => ?_⟩
  simp -dsimp -implicitDefEqProofs only [go_sem, seval, show ¬ (0 : Int) < 0 by decide]
def fewW (l : List Kn) (c : Bool) : Bool := decide (l.length ≤ 9) || (decide (200 < l.length) && (decide (l.length ≤ 203) && !validK l c))
theorem few22 (l : List Kn) (c : Bool) : PFun Try.prog 22 [Kns l, Bo c] (Bo (fewW l c)) := by
  refine PFun.intro 400 mixed Try.func22 (by kernel_rfl) rfl (by first | exact .v _ | (simp [Cl_v, Cl_t, Cl_g, Cl_fn, Cl_rp, Cl_ro]; done) | (simp [Cl_v, Cl_t, Cl_g, Cl_fn, Cl_rp, Cl_ro, or_imp, forall_and]; done) | (split <;> simp [Cl_v, Cl_t, Cl_g, Cl_fn, Cl_rp, Cl_ro])) (Nat.le_of_ble_eq_true rfl) ?_; rw [Try.ntmps22, Try.results22]
  by_cases h1 : ((l.length : Nat) : Int) ≤ 9
  · have e : fewW l c = true := by unfold fewW; rw [decide_eq_true (by omega)]; rfl
    simp -dsimp -implicitDefEqProofs only [go_sem, seval, List.length_map, h1, e]
  · by_cases h2 : (200 : Int) < ((l.length : Nat) : Int)
    · by_cases h3 : ((l.length : Nat) : Int) ≤ 203
      · have e : fewW l c = !validK l c := by unfold fewW; rw [decide_eq_false (by omega), decide_eq_true (by omega), decide_eq_true (by omega)]; simp
        rw [e]
        simp -dsimp -implicitDefEqProofs only [go_sem, seval, List.length_map, h1, h2, h3]
        refine AtFn.pure0 (valid16 l c (by omega)) ?_
        simp -dsimp -implicitDefEqProofs only [go_sem, seval]
      · have e : fewW l c = false := by unfold fewW; rw [decide_eq_false (by omega), decide_eq_false (show ¬ l.length ≤ 203 by omega)]; simp
        simp -dsimp -implicitDefEqProofs only [go_sem, seval, List.length_map, h1, h2, h3, e]
    · have e : fewW l c = false := by unfold fewW; rw [decide_eq_false (by omega), decide_eq_false (show ¬ 200 < l.length by omega)]; simp
      simp -dsimp -implicitDefEqProofs only [go_sem, seval, List.length_map, h1, h2, e]
end

section
set_option maxRecDepth 20000
attribute [local go_sem] eqk27' clKnsL clKns clPtsT clPtsR
structure ArPt (r : Ar) : Prop where
  t : inP (r.tx, r.ty) = true
  a : r.a.op = 3 → inP (r.a.x, r.a.y) = true ∧ inP (r.b.x, r.b.y) = true
  ab : r.a.op = 3 → r.b.op = 3
theorem solve_pt {l : List Kn} {c : Bool} (hv : validK l c = true) : ∀ r ∈ solveW (arcs0 l c) c, ArPt r := by
  intro r hr
  obtain ⟨k, hk, rfl⟩ := List.getElem_of_mem hr
  have S := solve_S (arcs0 l c) c
  rw [S.1] at hk
  have e : (solveW (arcs0 l c) c)[k] = (solveW (arcs0 l c) c).getD k zA := by simp [List.getD, S.1, hk]
  rw [e]
  obtain ⟨s1, s2, s3, s4, s5, s6, s7⟩ := S.2 k hk
  have hk' : k < segs l c := by rwa [arcs0_len] at hk
  have hl := (valid_len hv).1
  have hb := settled_b (c := c) (valid_b hv) (by omega)
  have F := arc_f (settledW l c) k
  rw [← arcs0_get hk'] at F
  have hil : k < (settledW l c).length := by rw [settled_len]; have := segs_le (l := l) (c := c); omega
  have hjl : (k + 1) % (settledW l c).length < (settledW l c).length := Nat.mod_lt _ (by omega)
  have b1 := (hb k hil).2.2
  have b2 := hb _ hjl
  refine ⟨by rw [s3, s4, F.tx, F.ty]; exact b2.1, fun _ => ?_, fun h => ?_⟩
  · rw [s5, s6, F.a, F.b]; exact ⟨b1, b2.2.1⟩
  · rw [s6]; rw [s5] at h; exact ((arcs0_All hv).fix k hk).1 h
theorem ctl3_in {r : Ar} (h : ArPt r) (h0 : (ctl3 r).2.2 = 0) : inP (ctl3 r).1 = true ∧ inP (ctl3 r).2.1 = true := by
  have hp : ∀ b c, (pt3 b c).2.2 = 0 → inP (pt3 b c).1 = true ∧ inP (pt3 b c).2.1 = true := by
    intro b c h
    unfold pt3 at *
    split at h
    · rename_i g
      rw [if_pos g]
      simpa using g
    · exact absurd h (by decide)
  unfold ctl3 at *
  by_cases h3 : r.a.op = 3
  · rw [if_pos h3]; exact h.a h3
  · rw [if_neg h3] at h0 ⊢
    split at h0
    · rename_i s; rw [if_pos s]; exact hp _ _ h0
    · rename_i s; rw [if_neg s]; exact hp _ _ h0
theorem err_cons {r : Ar} {rs : List Ar} (h : chErr (r :: rs) = 0) : (ctl3 r).2.2 = 0 ∧ chErr rs = 0 := by
  simp only [chErr] at h
  split at h
  · rename_i g; exact ⟨g, h⟩
  · rename_i g; exact absurd h g
theorem ch_in (n : Nat) (c : Bool) : ∀ (rs : List Ar) (k : Nat), (∀ r ∈ rs, ArPt r) → chErr rs = 0 → ∀ p ∈ chPts n c k rs, inP p = true
  | [], _, _, _, p, hp => by simp [chPts] at hp
  | r :: rs, k, h, he, p, hp => by
    obtain ⟨e1, e2⟩ := err_cons he
    have hr := h r List.mem_cons_self
    have hc := ctl3_in hr e1
    simp only [chPts, chAdd, List.mem_append, List.mem_cons, List.not_mem_nil, or_false] at hp
    rcases hp with (h1 | h1) | h1
    · rcases h1 with rfl | rfl
      · exact hc.1
      · exact hc.2
    · split at h1
      · simp only [List.mem_cons, List.not_mem_nil, or_false] at h1; rw [h1]; exact hr.t
      · simp at h1
    · exact ch_in n c rs (k + 1) (fun q hq => h q (List.mem_cons_of_mem _ hq)) e2 p h1
theorem ch_sh (d : Int × Int) (n : Nat) (c : Bool) : ∀ (rs : List Ar) (k : Nat), (∀ r ∈ rs, ArPt r) → chErr rs = 0 → chErr (rs.map (shA d)) = 0 → chPts n c k (rs.map (shA d)) = (chPts n c k rs).map (adP d)
  | [], _, _, _, _ => rfl
  | r :: rs, k, h, he, he' => by
    obtain ⟨e1, e2⟩ := err_cons he
    rw [List.map_cons] at he'
    obtain ⟨e1', e2'⟩ := err_cons he'
    have hr := h r List.mem_cons_self
    have hc := ctl3_sh hr.ab e1 e1'
    have ih := ch_sh d n c rs (k + 1) (fun q hq => h q (List.mem_cons_of_mem _ hq)) e2 e2'
    simp only [List.map_cons, chPts, ih, List.map_append, chAdd]
    congr 1
    rw [hc.1, hc.2]
    split <;> rfl
theorem wr_inC {x y : Int} (hx : inC x = true) (hy : -10000000 ≤ y ∧ y ≤ 10000000) : wr (x + y) = x + y := by
  simp only [inC, Bool.and_eq_true, decide_eq_true_eq] at hx
  exact wr_in (by omega) (by omega)
theorem mov_eq {l : List Kn} {c : Bool} {d : Int × Int} (hv : validK l c = true) (h1 : -10000000 ≤ d.1 ∧ d.1 ≤ 10000000) (h2 : -10000000 ≤ d.2 ∧ d.2 ≤ 10000000) : l.map (movK d) = l.map (shK d) := by
  refine List.map_congr_left fun k hk => ?_
  obtain ⟨i, hi, rfl⟩ := List.getElem_of_mem hk
  have e : l[i] = l.getD i zK := by simp [List.getD, hi]
  rw [e]
  have b := valid_b hv i hi
  generalize l.getD i zK = k at b
  obtain ⟨b1, b2, b3⟩ := b
  simp only [inP, Bool.and_eq_true] at b1 b2 b3
  have s : ∀ s : Sd, inC s.x = true → inC s.y = true → movS d s = shS d s := by
    intro s hx hy
    unfold movS shS
    rw [wr_inC hx h1, wr_inC hy h2]
  unfold movK shK
  rw [wr_inC b1.1 h1, wr_inC b1.2 h2, s _ b2.1 b2.2, s _ b3.1 b3.2]
theorem pts_sh {l : List Kn} {c : Bool} {d : Int × Int} (hv : validK l c = true) (he : chErr (solveW (arcs0 l c) c) = 0) (he' : chErr (solveW (arcs0 (l.map (shK d)) c) c) = 0) :
    ((((l.map (shK d)).getD 0 zK).x, ((l.map (shK d)).getD 0 zK).y) :: chPts (segs (l.map (shK d)) c) c 0 (solveW (arcs0 (l.map (shK d)) c) c)) = (((l.getD 0 zK).x, (l.getD 0 zK).y) :: chPts (segs l c) c 0 (solveW (arcs0 l c) c)).map (adP d) := by
  have hl := (valid_len hv).1
  rw [arcs0_map c (by omega), solve_sh] at he' ⊢
  rw [segs_map, getD_mapK (by omega), ch_sh d _ _ _ _ (solve_pt hv) he he']
  rfl
theorem pts_in {l : List Kn} {c : Bool} (hv : validK l c = true) (he : chErr (solveW (arcs0 l c) c) = 0) : ∀ p ∈ (((l.getD 0 zK).x, (l.getD 0 zK).y) :: chPts (segs l c) c 0 (solveW (arcs0 l c) c)), inP p = true := by
  have hl := (valid_len hv).1
  intro p hp
  rcases List.mem_cons.1 hp with rfl | hp
  · exact (valid_b hv 0 (by omega)).1
  · exact ch_in _ _ _ _ (solve_pt hv) he p hp
abbrev S16 (a b : Int) : AV := .g [.v (.int .i16 a), .v (.int .i16 b)]
set_option maxHeartbeats 4000000 in
theorem hobbyShifts (l : List Kn) (c : Bool) (D1 D2 : Int) (h1 : -32768 ≤ D1 ∧ D1 ≤ 32767) (h2 : -32768 ≤ D2 ∧ D2 ≤ 32767) : PFun Try.prog 8 [Kns l, Bo c, S16 D1 D2] (Bo true) := by
  have hfw := few22 l c
  have w1 : wr D1 = D1 := wr_in (by omega) (by omega)
  have w2 : wr D2 = D2 := wr_in (by omega) (by omega)
  obtain ⟨d1, hd1⟩ : ∃ d1, d1 = D1 * 300 := ⟨_, rfl⟩
  obtain ⟨d2, hd2⟩ : ∃ d2, d2 = D2 * 301 := ⟨_, rfl⟩
  have w3 : wr (D1 * 300) = d1 := by rw [wr_in] <;> omega
  have w4 : wr (D2 * 301) = d2 := by rw [wr_in] <;> omega
  cases hf : fewW l c with
  | false =>
    rw [hf] at hfw
    refine PFun.intro 400 mixed Try.func8 (by kernel_rfl) rfl (by first | exact .v _ | (simp [Cl_v, Cl_t, Cl_g, Cl_fn, Cl_rp, Cl_ro]; done) | (simp [Cl_v, Cl_t, Cl_g, Cl_fn, Cl_rp, Cl_ro, or_imp, forall_and]; done) | (split <;> simp [Cl_v, Cl_t, Cl_g, Cl_fn, Cl_rp, Cl_ro])) (Nat.le_of_ble_eq_true rfl) ?_; rw [Try.ntmps8, Try.results8]
    simp -dsimp -implicitDefEqProofs only [go_sem, seval]
    refine AtFn.pure0 hfw ?_
    simp -dsimp -implicitDefEqProofs only [go_sem, seval, hf]
    refine AtFn.pure0 awake10 ?_
    simp -dsimp -implicitDefEqProofs only [go_sem, seval]
  | true =>
    rw [hf] at hfw
    have hl203 : l.length ≤ 203 := by
      unfold fewW at hf
      simp only [Bool.or_eq_true, Bool.and_eq_true, decide_eq_true_eq] at hf
      rcases hf with h | h <;> omega
    have hvd := valid16 l c (by omega)
    by_cases hl0 : l = []
    · subst hl0
      have hmv := moved23_0 (d1, d2)
      have ev : validK [] c = false := by cases c <;> rfl
      rw [ev] at hvd
      refine PFun.intro 400 mixed Try.func8 (by kernel_rfl) rfl (by first | exact .v _ | (simp [Cl_v, Cl_t, Cl_g, Cl_fn, Cl_rp, Cl_ro]; done) | (simp [Cl_v, Cl_t, Cl_g, Cl_fn, Cl_rp, Cl_ro, or_imp, forall_and]; done) | (split <;> simp [Cl_v, Cl_t, Cl_g, Cl_fn, Cl_rp, Cl_ro])) (Nat.le_of_ble_eq_true rfl) ?_; rw [Try.ntmps8, Try.results8]
      simp -dsimp -implicitDefEqProofs only [go_sem, seval]
      refine AtFn.pure0 hfw ?_
      simp -dsimp -implicitDefEqProofs only [go_sem, seval, hf]
      simp -dsimp -implicitDefEqProofs only [go_sem, seval, w1, w2, w3, w4, show (0 : Int) ≤ 0 by decide, show (0 : Int) < 2 by decide, show (1 : Int) < 2 by decide, show (0 : Int) ≤ 1 by decide]
      refine AtFn.pure0 hmv ?_
      simp -dsimp -implicitDefEqProofs only [go_sem, seval]
      refine AtFn.pure0 hvd ?_
      simp -dsimp -implicitDefEqProofs only [go_sem, seval]
      refine AtFn.pure0 awake10 ?_
      simp -dsimp -implicitDefEqProofs only [go_sem, seval]
    have hl1 : 1 ≤ l.length := List.length_pos_iff.2 hl0
    have hmv := moved23 l (d1, d2) (by omega) hl1
    cases hv : validK l c with
    | false =>
      rw [hv] at hvd
      refine PFun.intro 400 mixed Try.func8 (by kernel_rfl) rfl (by first | exact .v _ | (simp [Cl_v, Cl_t, Cl_g, Cl_fn, Cl_rp, Cl_ro]; done) | (simp [Cl_v, Cl_t, Cl_g, Cl_fn, Cl_rp, Cl_ro, or_imp, forall_and]; done) | (split <;> simp [Cl_v, Cl_t, Cl_g, Cl_fn, Cl_rp, Cl_ro])) (Nat.le_of_ble_eq_true rfl) ?_; rw [Try.ntmps8, Try.results8]
      simp -dsimp -implicitDefEqProofs only [go_sem, seval]
      refine AtFn.pure0 hfw ?_
      simp -dsimp -implicitDefEqProofs only [go_sem, seval, hf]
      simp -dsimp -implicitDefEqProofs only [go_sem, seval, w1, w2, w3, w4, show (0 : Int) ≤ 0 by decide, show (0 : Int) < 2 by decide, show (1 : Int) < 2 by decide, show (0 : Int) ≤ 1 by decide]
      refine AtFn.pure0 hmv ?_
      simp -dsimp -implicitDefEqProofs only [go_sem, seval]
      refine AtFn.pure0 hvd ?_
      simp -dsimp -implicitDefEqProofs only [go_sem, seval]
      refine AtFn.pure0 awake10 ?_
      simp -dsimp -implicitDefEqProofs only [go_sem, seval]
    | true =>
      rw [hv] at hvd
      have hm := mov_eq (d := (d1, d2)) hv ⟨by show -10000000 ≤ d1; omega, by show d1 ≤ 10000000; omega⟩ ⟨by show -10000000 ≤ d2; omega, by show d2 ≤ 10000000; omega⟩
      rw [hm] at hmv
      have hvm := valid16 (l.map (shK (d1, d2))) c (by rw [List.length_map]; omega)
      cases hw : validK (l.map (shK (d1, d2))) c with
      | false =>
        rw [hw] at hvm
        refine PFun.intro 400 mixed Try.func8 (by kernel_rfl) rfl (by first | exact .v _ | (simp [Cl_v, Cl_t, Cl_g, Cl_fn, Cl_rp, Cl_ro]; done) | (simp [Cl_v, Cl_t, Cl_g, Cl_fn, Cl_rp, Cl_ro, or_imp, forall_and]; done) | (split <;> simp [Cl_v, Cl_t, Cl_g, Cl_fn, Cl_rp, Cl_ro])) (Nat.le_of_ble_eq_true rfl) ?_; rw [Try.ntmps8, Try.results8]
        simp -dsimp -implicitDefEqProofs only [go_sem, seval]
        refine AtFn.pure0 hfw ?_
        simp -dsimp -implicitDefEqProofs only [go_sem, seval, hf]
        simp -dsimp -implicitDefEqProofs only [go_sem, seval, w1, w2, w3, w4, show (0 : Int) ≤ 0 by decide, show (0 : Int) < 2 by decide, show (1 : Int) < 2 by decide, show (0 : Int) ≤ 1 by decide]
        refine AtFn.pure0 hmv ?_
        simp -dsimp -implicitDefEqProofs only [go_sem, seval]
        refine AtFn.pure0 hvd ?_
        simp -dsimp -implicitDefEqProofs only [go_sem, seval]
        refine AtFn.pure0 hvm ?_
        simp -dsimp -implicitDefEqProofs only [go_sem, seval]
        refine AtFn.pure0 awake10 ?_
        simp -dsimp -implicitDefEqProofs only [go_sem, seval]
      | true =>
        rw [hw] at hvm
        have hL := chooseG hv
        have hM := chooseG hw
        have P := pts_sh (d := (d1, d2)) hv
        have PI := pts_in hv
        unfold chR PaR at hL hM
        rcases chErr_or (solveW (arcs0 l c) c) with he | he
        · rcases chErr_or (solveW (arcs0 (l.map (shK (d1, d2))) c) c) with he' | he'
          · rw [if_pos he] at hL
            rw [if_pos he', P he he'] at hM
            have PI := PI he
            obtain ⟨PL, hPL⟩ : ∃ PL, PL = ((l.getD 0 zK).x, (l.getD 0 zK).y) :: chPts (segs l c) c 0 (solveW (arcs0 l c) c) := ⟨_, rfl⟩
            rw [← hPL] at hL hM PI
            clear P
            obtain ⟨n, hn⟩ : ∃ n, n = PL.length := ⟨_, rfl⟩
            have hnn : n < 2 ^ 62 := by
              rw [hn, hPL]
              by_cases h0 : segs l c = 0
              · have e : arcs0 l c = [] := arcs0_nil h0
                rw [e, solve_nil]
                simp [chPts]
              · have hr := (solve_S (arcs0 l c) c).1
                rw [arcs0_len] at hr
                have := ch_len (segs l c) c (solveW (arcs0 l c) c) 0 (by omega) (fun e => by rw [e] at hr; exact h0 hr.symm)
                have hsg := valid_segs hv
                rw [List.length_cons, this]
                split <;> omega
            refine PFun.intro 400 mixed Try.func8 (by kernel_rfl) rfl (by first | exact .v _ | (simp [Cl_v, Cl_t, Cl_g, Cl_fn, Cl_rp, Cl_ro]; done) | (simp [Cl_v, Cl_t, Cl_g, Cl_fn, Cl_rp, Cl_ro, or_imp, forall_and]; done) | (split <;> simp [Cl_v, Cl_t, Cl_g, Cl_fn, Cl_rp, Cl_ro])) (Nat.le_of_ble_eq_true rfl) ?_; rw [Try.ntmps8, Try.results8]
            simp -dsimp -implicitDefEqProofs only [go_sem, seval]
            refine AtFn.pure0 hfw ?_
            simp -dsimp -implicitDefEqProofs only [go_sem, seval, hf]
            simp -dsimp -implicitDefEqProofs only [go_sem, seval, w1, w2, w3, w4, show (0 : Int) ≤ 0 by decide, show (0 : Int) < 2 by decide, show (1 : Int) < 2 by decide, show (0 : Int) ≤ 1 by decide]
            refine AtFn.pure0 hmv ?_
            simp -dsimp -implicitDefEqProofs only [go_sem, seval]
            refine AtFn.pure0 hvd ?_
            simp -dsimp -implicitDefEqProofs only [go_sem, seval]
            refine AtFn.pure0 hvm ?_
            simp -dsimp -implicitDefEqProofs only [go_sem, seval]
            refine AtFn.pure0 hL ?_
            simp -dsimp -implicitDefEqProofs only [go_sem, seval]
            refine AtFn.pure0 hM ?_
            simp -dsimp -implicitDefEqProofs only [go_sem, seval, List.length_map, ← hn]
            refine ⟨{i : Nat // i ≤ n}, fun i => ⟨126, tl [(7, .ptr 0 0 0), (9, .ptr 1 0 0), (11, .ptr 2 0 0), (86, I (n : Nat)), (87, I i.1)], [(0, ⟨2, [[I d1, I d2]]⟩), (1, ⟨2, [[.ro 2 (PL.map PtC), Bo c]]⟩), (2, ⟨2, [[.ro 2 ((PL.map (adP (d1, d2))).map PtC), Bo c]]⟩)], 3, .nil⟩, fun i => n - i.1,
              ⟨⟨0, by omega⟩, Le.tl (Ls := []) (y := none) [(0, 1), (1, 2), (2, 3)] (by simp -dsimp -implicitDefEqProofs only [go_sem, seval]) ?_ (by simp) (by simp [sg]) trivial⟩, fun i => ?_⟩
            · simp -dsimp -implicitDefEqProofs only [go_sem, seval]
              exact ⟨renL_cl rfl (by simp -dsimp -implicitDefEqProofs only [go_sem, seval]), renL_cl rfl (by simp -dsimp -implicitDefEqProofs only [go_sem, seval]), renL_cl rfl (by simp -dsimp -implicitDefEqProofs only [go_sem, seval])⟩
            obtain ⟨i, hi⟩ := i
            simp -dsimp -implicitDefEqProofs only [go_sem, seval]
            refine ⟨fun h => ?_, fun h => ?_⟩
            · have hin : i < n := by omega
              have e3 : wr ((i : Int) + 1) = ((i + 1 : Nat) : Int) := by rw [wr_in] <;> omega
              have ci : (i : Int) < ((n : Nat) : Int) := by omega
              have gp := getP (l := PL) (i := i) (by omega)
              have hin' := PI _ (List.mem_of_getElem? gp)
              obtain ⟨p, hp⟩ : ∃ p, p = gP PL i := ⟨_, rfl⟩
              rw [← hp] at gp hin'
              simp only [inP, Bool.and_eq_true] at hin'
              have w5 : wr (p.1 + d1) = p.1 + d1 := wr_inC hin'.1 ⟨by omega, by omega⟩
              have w6 : wr (p.2 + d2) = p.2 + d2 := wr_inC hin'.2 ⟨by omega, by omega⟩
              refine AtCode.draw 34 [([], []), ([0], []), ([], []), ([0, 1, 2], []), ([0, 1, 2, 3], []), ([0, 1, 2, 3, 4], []), ([], []), ([6], []), ([0, 1, 2, 3, 4, 5, 6, 7], []), ([], []), ([9], []), ([], []), ([9, 10, 11], []), ([9, 10, 11, 12], []), ([9, 10, 11, 12, 13], []), ([0, 1, 2, 3, 4, 5, 6, 7, 8, 9, 10, 11, 12, 13, 14], []), ([0, 1, 2, 3, 4, 5, 6, 7, 8, 9, 10, 11, 12, 13, 14, 15], []), ([0, 1, 2, 3, 4, 5, 6, 7, 8, 9, 10, 11, 12, 13, 14, 15, 16], []), ([0, 1, 2, 3, 4, 5, 6, 7, 8, 9, 10, 11, 12, 13, 14, 15, 16, 17], []), ([0, 1, 2, 3, 4, 5, 6, 7, 8, 9, 10, 11, 12, 13, 14, 15, 16], []), ([0, 1, 2, 3, 4, 5, 6, 7, 8, 9, 10, 11, 12, 13, 14, 15, 16, 17, 18, 19], []), ([0, 1, 2, 3, 4, 5, 6, 7, 8, 9, 10, 11, 12, 13, 14, 15, 16, 17, 18, 19, 20], []), ([0, 1, 2, 3, 4, 5, 6, 7, 8, 9, 10, 11, 12, 13, 14, 15, 16, 17, 18, 19, 20, 21], []), ([0, 1, 2, 3, 4, 5, 6, 7, 8, 9, 10, 11, 12, 13, 14, 15, 16], []), ([0, 1, 2, 3, 4, 5, 6, 7, 8, 9, 10, 11, 12, 13, 14, 15, 16, 23], []), ([0, 1, 2, 3, 4, 5, 6, 7, 8, 9, 10, 11, 12, 13, 14, 15, 16, 17, 18, 19, 20, 21, 22, 23, 24], []), ([0, 1, 2, 3, 4, 5, 6, 7, 8, 9, 10, 11, 12, 13, 14, 15, 16], []), ([0, 1, 2, 3, 4, 5, 6, 7, 8, 9, 10, 11, 12, 13, 14, 15, 16, 26], []), ([0, 1, 2, 3, 4, 5, 6, 7, 8, 9, 10, 11, 12, 13, 14, 15, 16], []), ([0, 1, 2, 3, 4, 5, 6, 7, 8, 9, 10, 11, 12, 13, 14, 15, 16, 26, 27, 28], []), ([0, 1, 2, 3, 4, 5, 6, 7, 8, 9, 10, 11, 12, 13, 14, 15, 16, 26, 27, 28, 29], []), ([0, 1, 2, 3, 4, 5, 6, 7, 8, 9, 10, 11, 12, 13, 14, 15, 16, 26, 27, 28, 29, 30], []), ([0, 1, 2, 3, 4, 5, 6, 7, 8, 9, 10, 11, 12, 13, 14, 15, 16, 17, 18, 19, 20, 21, 22, 23, 24, 25, 26, 27, 28, 29, 30, 31], []), ([0, 1, 2, 3, 4, 5, 6, 7, 8, 9, 10, 11, 12, 13, 14, 15, 16, 17, 18, 19, 20, 21, 22, 23, 24, 25, 26, 27, 28, 29, 30, 31, 32], [])] (by kernel_rfl) ?_
              simp -dsimp -implicitDefEqProofs only [go_sem, seval, List.getElem?_map, gp, adP, w5, w6, List.length_map, ← hn, ci, Int.toNat_natCast, Int.natCast_nonneg]
              refine ⟨⟨i + 1, by omega⟩, by show n - (i + 1) < n - i; omega, Le.tl (Ls := []) (y := none) [] (by simp -dsimp -implicitDefEqProofs only [go_sem, seval, e3]) ?_ (by simp) (by simp [sg]) trivial⟩
              simp -dsimp -implicitDefEqProofs only [go_sem, seval]
              exact ⟨renL_cl rfl (by simp -dsimp -implicitDefEqProofs only [go_sem, seval]), renL_cl rfl (by simp -dsimp -implicitDefEqProofs only [go_sem, seval]), renL_cl rfl (by simp -dsimp -implicitDefEqProofs only [go_sem, seval])⟩
            · refine AtFn.pure0 awake10 ?_
              simp -dsimp -implicitDefEqProofs only [go_sem, seval]
          · rw [if_pos he] at hL
            rw [if_neg (by omega), he'] at hM
            refine PFun.intro 400 mixed Try.func8 (by kernel_rfl) rfl (by first | exact .v _ | (simp [Cl_v, Cl_t, Cl_g, Cl_fn, Cl_rp, Cl_ro]; done) | (simp [Cl_v, Cl_t, Cl_g, Cl_fn, Cl_rp, Cl_ro, or_imp, forall_and]; done) | (split <;> simp [Cl_v, Cl_t, Cl_g, Cl_fn, Cl_rp, Cl_ro])) (Nat.le_of_ble_eq_true rfl) ?_; rw [Try.ntmps8, Try.results8]
            simp -dsimp -implicitDefEqProofs only [go_sem, seval]
            refine AtFn.pure0 hfw ?_
            simp -dsimp -implicitDefEqProofs only [go_sem, seval, hf]
            simp -dsimp -implicitDefEqProofs only [go_sem, seval, w1, w2, w3, w4, show (0 : Int) ≤ 0 by decide, show (0 : Int) < 2 by decide, show (1 : Int) < 2 by decide, show (0 : Int) ≤ 1 by decide]
            refine AtFn.pure0 hmv ?_
            simp -dsimp -implicitDefEqProofs only [go_sem, seval]
            refine AtFn.pure0 hvd ?_
            simp -dsimp -implicitDefEqProofs only [go_sem, seval]
            refine AtFn.pure0 hvm ?_
            simp -dsimp -implicitDefEqProofs only [go_sem, seval]
            refine AtFn.pure0 hL ?_
            simp -dsimp -implicitDefEqProofs only [go_sem, seval]
            refine AtFn.pure0 hM ?_
            simp -dsimp -implicitDefEqProofs only [go_sem, seval]
            refine AtFn.pure0 awake10 ?_
            simp -dsimp -implicitDefEqProofs only [go_sem, seval]
        · rw [if_neg (by omega), he] at hL
          rcases chErr_or (solveW (arcs0 (l.map (shK (d1, d2))) c) c) with he' | he'
          · rw [if_pos he'] at hM
            refine PFun.intro 400 mixed Try.func8 (by kernel_rfl) rfl (by first | exact .v _ | (simp [Cl_v, Cl_t, Cl_g, Cl_fn, Cl_rp, Cl_ro]; done) | (simp [Cl_v, Cl_t, Cl_g, Cl_fn, Cl_rp, Cl_ro, or_imp, forall_and]; done) | (split <;> simp [Cl_v, Cl_t, Cl_g, Cl_fn, Cl_rp, Cl_ro])) (Nat.le_of_ble_eq_true rfl) ?_; rw [Try.ntmps8, Try.results8]
            simp -dsimp -implicitDefEqProofs only [go_sem, seval]
            refine AtFn.pure0 hfw ?_
            simp -dsimp -implicitDefEqProofs only [go_sem, seval, hf]
            simp -dsimp -implicitDefEqProofs only [go_sem, seval, w1, w2, w3, w4, show (0 : Int) ≤ 0 by decide, show (0 : Int) < 2 by decide, show (1 : Int) < 2 by decide, show (0 : Int) ≤ 1 by decide]
            refine AtFn.pure0 hmv ?_
            simp -dsimp -implicitDefEqProofs only [go_sem, seval]
            refine AtFn.pure0 hvd ?_
            simp -dsimp -implicitDefEqProofs only [go_sem, seval]
            refine AtFn.pure0 hvm ?_
            simp -dsimp -implicitDefEqProofs only [go_sem, seval]
            refine AtFn.pure0 hL ?_
            simp -dsimp -implicitDefEqProofs only [go_sem, seval]
            refine AtFn.pure0 hM ?_
            simp -dsimp -implicitDefEqProofs only [go_sem, seval]
            refine AtFn.pure0 awake10 ?_
            simp -dsimp -implicitDefEqProofs only [go_sem, seval]
          · rw [if_neg (by omega), he'] at hM
            refine PFun.intro 400 mixed Try.func8 (by kernel_rfl) rfl (by first | exact .v _ | (simp [Cl_v, Cl_t, Cl_g, Cl_fn, Cl_rp, Cl_ro]; done) | (simp [Cl_v, Cl_t, Cl_g, Cl_fn, Cl_rp, Cl_ro, or_imp, forall_and]; done) | (split <;> simp [Cl_v, Cl_t, Cl_g, Cl_fn, Cl_rp, Cl_ro])) (Nat.le_of_ble_eq_true rfl) ?_; rw [Try.ntmps8, Try.results8]
            simp -dsimp -implicitDefEqProofs only [go_sem, seval]
            refine AtFn.pure0 hfw ?_
            simp -dsimp -implicitDefEqProofs only [go_sem, seval, hf]
            simp -dsimp -implicitDefEqProofs only [go_sem, seval, w1, w2, w3, w4, show (0 : Int) ≤ 0 by decide, show (0 : Int) < 2 by decide, show (1 : Int) < 2 by decide, show (0 : Int) ≤ 1 by decide]
            refine AtFn.pure0 hmv ?_
            simp -dsimp -implicitDefEqProofs only [go_sem, seval]
            refine AtFn.pure0 hvd ?_
            simp -dsimp -implicitDefEqProofs only [go_sem, seval]
            refine AtFn.pure0 hvm ?_
            simp -dsimp -implicitDefEqProofs only [go_sem, seval]
            refine AtFn.pure0 hL ?_
            simp -dsimp -implicitDefEqProofs only [go_sem, seval]
            refine AtFn.pure0 hM ?_
            simp -dsimp -implicitDefEqProofs only [go_sem, seval]
            refine AtFn.pure0 awake10 ?_
            simp -dsimp -implicitDefEqProofs only [go_sem, seval]
theorem i16_wf {n : Int} (h : (Lit.int .i16 n).wf = true) : -32768 ≤ n ∧ n ≤ 32767 := by
  simp [Lit.wf, IntKind.min, IntKind.max] at h
  first | exact h | (simp [IntKind.signed, IntKind.bits] at h; omega)
end

end Go.Proofs.Ytckbchkkjnahlaa
