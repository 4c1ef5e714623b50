/- What functions of the given program answer, part 5. Conditions: each theorem speaks for itself. -/
import Derived.Test.YtckbchkkjnahlaaBTy
import Derived.Test.YtckbchkkjnahlaaBF1
import Derived.Test.YtckbchkkjnahlaaBF2
import Derived.Test.YtckbchkkjnahlaaBF3
import Derived.Test.YtckbchkkjnahlaaBF4
set_option linter.unusedSimpArgs false
set_option linter.unusedVariables false
namespace Go.Proofs.Ytckbchkkjnahlaa
open Go Go.Eng Go.RowKit
attribute [local go_sem ↓] qE_move qE_assign qE_pick qE_load qE_fieldAddr qE_indexAddr qE_extract qE_binOp qE_neg qE_not qE_convert qE_build qE_len qE_max2 qE_min2 qE_nilCheck qE_slice vc_end vc_skip vc_ret vc_seq vc_cond vc_block vc_exit vc_region vc_draw vc_loop vc_blk vc_lp vc_o_nil vc_o vc_o_guard onK_eq oK_move oK_assign oK_pick oK_load oK_fieldAddr oK_indexAddr oK_index oK_extract oK_binOp oK_unOp oK_convert oK_nilCheck oK_slice oK_build oK_len oK_max oK_min onN_eq oK_box oK_alloc oK_buildSlice oK_makeSlice onH_eq oK_store onA_eq oK_append oK_call oK_copy oK_cap oK_clear bV_add bV_sub bV_mul bV_quo bV_rem bV_or bV_shl bV_shr bV_eql bV_neq bV_lss bV_leq bV_gtr bV_geq vcQ_nil vcQ_cons vcQ_guard Q_move Q_assign Q_pick Q_load Q_fieldAddr Q_indexAddr Q_extract Q_binOp Q_unOp Q_convert Q_nilCheck Q_slice Q_build Q_len Q_alloc Q_makeSlice Q_buildSlice Q_call qE_index tailB_nil tailB_true onS_eq tailB_store onP_eq tailB_append onQ_eq onQB_eq loadE indexE
attribute [local go_sem] force_eq optK_some optE_some optE_none bK_v tK_t fnK_fn fyK_fn nK_ptr pK_ptr pK_rp brK_true brK_false brK_not evA_tmp evA_const evA_func putA_some putA_none pushA_eq slots_zero slots_nil tl_nil tl_cons find_cons find_nil setN_cons setN_nil dropN_nil dropN_cons loE_none loE_some hiE_none hiE_some slE_sl slE_ro bE_i bE_beq bE_bne bE_eql bE_neq intsA_nil intsA_cons gdK_b gdK_u popTo_blk popTo_c popTo_lp nilE_tmp nilE_int nilE_nil srcE_ro srcE_sl dstE_sl dstE_ez fin_eq res_nil res_tmp res_cell tup1 tup0 optA_some frz_v frz_ro frz_g frz_sl nm_v nm_ro nm_sl cells_v cells_g cells_ro cells_ptr cells_sl one_int one_bool one_slice oneA_v oneA_ro oneA_sl ofV_int ofV_bool ofV_string ofV_slice len_ro len_sl len_nil asI_int fill_nil fill_cons chunks_nil chunks_cons take_all DrawK_eq idR_eq addB_some roB_nil roB_cons sg_nil sg_cons ren_v ren_nil ren_ptr ren_sl ren_ro iK_ro iK_sl ixE_s takeA_00 takeA_s nil_eq maskE_eq i_InlQ i_tup2 i_RenF_nil i_RenF_cons wrap_wr brK_dec maskH_eq upd_get slots_succ Cl_v Cl_ro Cl_rp Cl_fn Cl_g Cl_t Bool.false_eq_true decide_true decide_false beq_self_eq_true true_and and_true ne_eq not_true not_false_eq_true List.elem_cons List.elem_nil List.contains_cons List.contains_nil List.getD_cons_zero List.getD_cons_succ Int.cast_ofNat_Int Bool.or_true Bool.true_or Bool.or_false Bool.false_or if_true if_false List.toList_toArray List.map_cons List.map_nil List.cons_append List.nil_append List.append_nil List.flatMap_cons List.flatMap_nil List.getElem?_cons_zero List.getElem?_cons_succ List.length_cons List.length_nil List.drop_succ_cons List.drop_zero List.take_succ_cons List.take_zero List.all_cons List.all_nil List.set_cons_zero List.set_cons_succ Option.bind_some Option.bind_none Option.map_some Option.map_none List.headD_cons List.tail_cons List.getElem?_toArray beq_true beq_false Bool.not_true Bool.not_false Bool.true_and Bool.and_true Bool.false_and Bool.and_false newCh Option.some.injEq exists_eq_left' sg_nil sg_cons List.mem_cons List.not_mem_nil forall_eq_or_imp forall_eq false_implies implies_true or_false false_or false_and and_false or_true true_or exists_false Option.isSome_some Option.isSome_none List.range_zero
attribute [local go_sem] T.ik2 T.us2 T.sz3 T.by3 T.ag3 T.pt3 T.ik3 T.us3 T.ze3 T.sz4 T.ag4 T.bo4 T.ik5 T.us5 T.st9 T.sz22 T.ag22 T.sl22 T.ar22 T.pt22 T.ik22 T.us22 T.sl25 T.ar25 T.pt25 T.ik25 T.us25 T.sz27 T.by27 T.ag27 T.ze27 T.fl27_0 T.fl27_1 T.bu27 T.sz30 T.ag30 T.sz32 T.ag32 T.ze32 T.fl32_0 T.fl32_1 T.fl32_2 T.fl32_3 T.bu32 T.sz34 T.by34 T.ag34 T.ze34 T.fl34_0 T.fl34_1 T.fl34_2 T.bu34 T.sz37 T.ag37 T.ze37 T.fl37_0 T.fl37_1 T.bu37 T.sl41 T.ik41 T.us41 T.sz44 T.by44 T.ag44 T.ze44 T.bu44 T.sz61 T.ag61 T.sl61 T.ar61 T.pt61 T.ik61 T.us61 T.ze61 T.sz66 T.by66 T.ag66 T.ze66 T.fl66_0 T.fl66_1 T.fl66_2 T.fl66_3 T.fl66_4 T.fl66_5 T.fl66_6 T.fl66_7 T.fl66_8 T.bu66 T.sl71 T.ik71 T.us71 T.sz80 T.ag80 T.ze80 T.sl81 T.ik94 T.us94 T.sl96 T.ar96 T.pt96 T.ik96 T.us96 T.sz98 T.ag98 T.sl98 T.ar98 T.pt98 T.ik98 T.us98 T.sz100 T.by100 T.ag100 T.ze100 T.fl100_0 T.fl100_1 T.bu100 T.sz101 T.by101 T.ag101 T.sl101 T.ar101 T.ze101 T.sz103 T.by103 T.ag103 T.ze103 T.fl103_0 T.fl103_1 T.fl103_2 T.fl103_3 T.bu103 T.sl107 T.sl112 T.ik118 T.sl122 T.sz127 T.ag127 T.ze127 T.fl127_0 T.fl127_1 T.bu127 T.sz131 T.by131 T.ag131 T.ik131 T.us131 T.ze131 -- NOREP -- EXTRA=EngZR
section
set_option maxRecDepth 20000
attribute [local go_sem] clU32 clNat clBigT clBigC clI
def bd (k : Nat) (z : Int) : Prop := (z.natAbs : Int) < 4294967296 ^ k
theorem bd_sz {k : Nat} {z : Int} (h : bd k z) (hk : k < 536870912) : szB z := szB_of h hk
theorem bd_mono {k l : Nat} {z : Int} (h : bd k z) (hk : k ≤ l) : bd l z := Int.lt_of_lt_of_le h (Bpow_mono hk)
theorem bd_add {k : Nat} {x y : Int} (hx : bd k x) (hy : bd k y) : bd (k + 1) (x + y) := by
  unfold bd at *
  rw [Int.pow_succ]; omega
theorem bd_neg {k : Nat} {x : Int} (hx : bd k x) : bd k (-x) := by
  unfold bd at *
  omega
theorem bd_sub {k : Nat} {x y : Int} (hx : bd k x) (hy : bd k y) : bd (k + 1) (x - y) := by
  rw [Int.sub_eq_add_neg]; exact bd_add hx (bd_neg hy)
theorem bd_mul {k l : Nat} {x y : Int} (hx : bd k x) (hy : bd l y) : bd (k + l) (x * y) := by
  unfold bd at *
  rw [Int.natAbs_mul, Int.pow_add]
  push_cast
  have h1 : (x.natAbs : Int) * (y.natAbs : Int) ≤ (x.natAbs : Int) * 4294967296 ^ l := Int.mul_le_mul_of_nonneg_left (by omega) (by omega)
  have h2 : (x.natAbs : Int) * 4294967296 ^ l < 4294967296 ^ k * 4294967296 ^ l := Int.mul_lt_mul_of_pos_right hx (pow_pos3 l)
  omega
theorem bd_int {x : Int} (h1 : -18446744073709551615 ≤ x) (h2 : x ≤ 18446744073709551615) : bd 2 x := by
  unfold bd
  rw [show (4294967296 : Int) ^ 2 = 18446744073709551616 by decide]; omega
def in63 (n : Int) : Prop := -9223372036854775808 ≤ n ∧ n ≤ 9223372036854775807
theorem bd_prod {l : List Int} (h : ∀ n ∈ l, in63 n) : bd (2 * l.length + 1) (prodZ l) := by
  have hb := prod_b l h
  unfold bd
  rw [Int.pow_succ, Int.pow_mul, show (4294967296 : Int) ^ 2 = 18446744073709551616 by decide]
  have : (0 : Int) < 18446744073709551616 ^ l.length := Int.pow_pos (by decide)
  omega
def redW (a : Int) : Int := if 188743680 < a.tmod 377487360 then a.tmod 377487360 - 377487360 else if a.tmod 377487360 ≤ -188743680 then a.tmod 377487360 + 377487360 else a.tmod 377487360
theorem tmod_b (a : Int) {m : Int} (hm : 0 < m) : -m < a.tmod m ∧ a.tmod m < m := by
  rcases Int.le_total 0 a with h | h
  · rw [Int.tmod_eq_emod_of_nonneg h]
    have := Int.emod_nonneg a (show m ≠ 0 by omega)
    have := Int.emod_lt_of_pos a hm
    omega
  · have e : a.tmod m = -((-a).tmod m) := by rw [Int.neg_tmod]; omega
    rw [e, Int.tmod_eq_emod_of_nonneg (by omega)]
    have := Int.emod_nonneg (-a) (show m ≠ 0 by omega)
    have := Int.emod_lt_of_pos (-a) hm
    omega
theorem red_b (a : Int) : -188743680 < redW a ∧ redW a ≤ 188743680 := by
  have := tmod_b a (m := 377487360) (by decide)
  unfold redW
  split
  · omega
  · split <;> omega
theorem reduced64 (a : Int) : PFun Try.prog 64 [I a] (I (redW a)) := by
  have hb := tmod_b a (m := 377487360) (by decide)
  unfold redW
  by_cases h1 : 188743680 < a.tmod 377487360
  · rw [if_pos h1]
    have w1 : wr (a.tmod 377487360 - 377487360) = a.tmod 377487360 - 377487360 := wr_in (by omega) (by omega)
    refine PFun.intro 400 mixed Try.func64 (by kernel_rfl) rfl (by first | exact .v _ | (simp [Cl_v, Cl_t, Cl_g, Cl_fn, Cl_rp, Cl_ro]; done) | (simp [Cl_v, Cl_t, Cl_g, Cl_fn, Cl_rp, Cl_ro, or_imp, forall_and]; done) | (split <;> simp [Cl_v, Cl_t, Cl_g, Cl_fn, Cl_rp, Cl_ro])) (Nat.le_of_ble_eq_true rfl) ?_; rw [Try.ntmps64, Try.results64]
    simp -dsimp -implicitDefEqProofs only [go_sem, seval, h1, w1]
  · rw [if_neg h1]
    by_cases h2 : a.tmod 377487360 ≤ -188743680
    · rw [if_pos h2]
      have w1 : wr (a.tmod 377487360 + 377487360) = a.tmod 377487360 + 377487360 := wr_in (by omega) (by omega)
      refine PFun.intro 400 mixed Try.func64 (by kernel_rfl) rfl (by first | exact .v _ | (simp [Cl_v, Cl_t, Cl_g, Cl_fn, Cl_rp, Cl_ro]; done) | (simp [Cl_v, Cl_t, Cl_g, Cl_fn, Cl_rp, Cl_ro, or_imp, forall_and]; done) | (split <;> simp [Cl_v, Cl_t, Cl_g, Cl_fn, Cl_rp, Cl_ro])) (Nat.le_of_ble_eq_true rfl) ?_; rw [Try.ntmps64, Try.results64]
      simp -dsimp -implicitDefEqProofs only [go_sem, seval, h1, h2, w1]
    · rw [if_neg h2]
      refine PFun.intro 400 mixed Try.func64 (by kernel_rfl) rfl (by first | exact .v _ | (simp [Cl_v, Cl_t, Cl_g, Cl_fn, Cl_rp, Cl_ro]; done) | (simp [Cl_v, Cl_t, Cl_g, Cl_fn, Cl_rp, Cl_ro, or_imp, forall_and]; done) | (split <;> simp [Cl_v, Cl_t, Cl_g, Cl_fn, Cl_rp, Cl_ro])) (Nat.le_of_ble_eq_true rfl) ?_; rw [Try.ntmps64, Try.results64]
      simp -dsimp -implicitDefEqProofs only [go_sem, seval, h1, h2]
def sm (n : Int) : Prop := -1152921504606846976 ≤ n ∧ n ≤ 1152921504606846976
def curF (w ta tb : Int) : Int := prodZ [w, tb, tb, tb, 65536] + prodZ [196608, ta, ta, ta, tb] - prodZ [ta, ta, ta, 65536, 65536]
def curG (w ta tb : Int) : Int := prodZ [w, 3 * ta - 65536, tb, tb, tb] + prodZ [ta, ta, ta, 65536, 65536]
theorem prod5 {a b c d e : Int} (ha : in63 a) (hb : in63 b) (hc : in63 c) (hd : in63 d) (he : in63 e) : PFun Try.prog 79 [IntsA [a, b, c, d, e]] (BigA (prodZ [a, b, c, d, e])) ∧ bd 11 (prodZ [a, b, c, d, e]) := by
  have h : ∀ n ∈ [a, b, c, d, e], in63 n := by
    intro n hn
    simp at hn
    rcases hn with rfl | rfl | rfl | rfl | rfl <;> assumption
  exact ⟨product79 _ h (by simp), bd_prod h⟩
set_option maxHeartbeats 2000000 in
theorem curl75 (w ta tb : Int) (hw : sm w) (ha : sm ta) (hb : sm tb) : PFun Try.prog 75 [I w, I ta, I tb] (.t [BigA (curF w ta tb), BigA (curG w ta tb)]) := by
  unfold sm at hw ha hb
  have iw : in63 w := ⟨by omega, by omega⟩
  have ia : in63 ta := ⟨by omega, by omega⟩
  have ib : in63 tb := ⟨by omega, by omega⟩
  have iu : in63 65536 := ⟨by omega, by omega⟩
  have i3 : in63 196608 := ⟨by omega, by omega⟩
  have ic : in63 (3 * ta - 65536) := ⟨by omega, by omega⟩
  obtain ⟨p1, b1⟩ := prod5 iw ib ib ib iu
  obtain ⟨p2, b2⟩ := prod5 i3 ia ia ia ib
  obtain ⟨p3, b3⟩ := prod5 ia ia ia iu iu
  obtain ⟨p4, b4⟩ := prod5 iw ic ib ib ib
  have a1 := plus70 _ _ (bd_sz b1 (by decide)) (bd_sz b2 (by decide))
  have a2 := minus67 _ _ (bd_sz (bd_add b1 b2) (by decide)) (bd_sz b3 (by decide))
  have a3 := plus70 _ _ (bd_sz b4 (by decide)) (bd_sz b3 (by decide))
  have w1 : wr (3 * ta) = 3 * ta := wr_in (by omega) (by omega)
  have w2 : wr (3 * ta - 65536) = 3 * ta - 65536 := wr_in (by omega) (by omega)
  change PFun Try.prog 67 _ (BigA (curF w ta tb)) at a2
  change PFun Try.prog 70 _ (BigA (curG w ta tb)) at a3
  obtain ⟨F, hF⟩ : ∃ F, F = curF w ta tb := ⟨_, rfl⟩
  obtain ⟨G, hG⟩ : ∃ F, F = curG w ta tb := ⟨_, rfl⟩
  rw [← hF] at a2 ⊢
  rw [← hG] at a3 ⊢
  generalize prodZ [w, tb, tb, tb, 65536] = P1 at *
  generalize prodZ [196608, ta, ta, ta, tb] = P2 at *
  generalize prodZ [ta, ta, ta, 65536, 65536] = P3 at *
  generalize prodZ [w, 3 * ta - 65536, tb, tb, tb] = P4 at *
  refine PFun.intro 400 mixed Try.func75 (by kernel_rfl) rfl (by simp only [Cl_t, List.mem_cons, List.not_mem_nil, or_false, forall_eq_or_imp, forall_eq, clBigT, and_self]) (Nat.le_of_ble_eq_true rfl) ?_; rw [Try.ntmps75, Try.results75]
  simp -dsimp -implicitDefEqProofs only [go_sem, seval]
  refine AtFn.pure p1 ?_
  simp -dsimp -implicitDefEqProofs only [go_sem, seval]
  refine ⟨rfl, ?_⟩
  refine AtFn.pure p2 ?_
  simp -dsimp -implicitDefEqProofs only [go_sem, seval]
  refine ⟨rfl, ?_⟩
  refine AtFn.pure0 a1 ?_
  simp -dsimp -implicitDefEqProofs only [go_sem, seval]
  refine AtFn.pure p3 ?_
  simp -dsimp -implicitDefEqProofs only [go_sem, seval]
  refine ⟨rfl, ?_⟩
  refine AtFn.pure0 a2 ?_
  simp -dsimp -implicitDefEqProofs only [go_sem, seval, w1, w2]
  refine AtFn.pure p4 ?_
  simp -dsimp -implicitDefEqProofs only [go_sem, seval]
  refine ⟨rfl, ?_⟩
  refine AtFn.pure p3 ?_
  simp -dsimp -implicitDefEqProofs only [go_sem, seval]
  refine ⟨rfl, ?_⟩
  refine AtFn.pure0 a3 ?_
  simp -dsimp -implicitDefEqProofs only [go_sem, seval]
  refine AtCode.drawB 2 [([], []), ([], [0]), ([0], []), ([0, 1, 2], [])] [false, true] (by kernel_rfl) ?_
  simp -dsimp -implicitDefEqProofs only [go_sem, seval]
  kernel_rfl
structure Rw where
  a : Int
  m : Int
  e : Int
  r : Int
  s : Int
abbrev RwC (x : Rw) : List AV := [Bo (decide (x.a < 0)), NatA (dig (x.a.natAbs : Int)), Bo (decide (x.m < 0)), NatA (dig (x.m.natAbs : Int)), Bo (decide (x.e < 0)), NatA (dig (x.e.natAbs : Int)), Bo (decide (x.r < 0)), NatA (dig (x.r.natAbs : Int)), Bo (decide (x.s < 0)), NatA (dig (x.s.natAbs : Int))]
abbrev RwA (x : Rw) : AV := .g (RwC x)
theorem clRwC (x : Rw) : (∀ s ∈ RwC x, Cl s) ↔ True := iff_true_intro (by simp only [List.mem_cons, List.not_mem_nil, or_false, forall_eq_or_imp, forall_eq, Cl_v, clNat, and_self])
attribute [local go_sem] clRwC
def innW (x y : Ar) (p next : Int) : Rw :=
  let b := prodZ [3 * x.a.t - 65536, x.b.t, x.b.t, y.b.t, y.far]
  let c := prodZ [3 * y.b.t - 65536, y.a.t, y.a.t, x.a.t, x.far]
  let e := prodZ [y.a.t, y.a.t, 65536, x.a.t, x.far]
  ⟨prodZ [x.b.t, x.b.t, 65536, y.b.t, y.far], b + c, e, -(b * p + e * next), 0⟩
set_option maxHeartbeats 2000000 in
theorem inner65 (x y : Ar) (p next : Int) (h1 : sm x.a.t) (h2 : sm x.b.t) (h3 : sm y.a.t) (h4 : sm y.b.t) (h5 : sm x.far) (h6 : sm y.far) (hp : sm p) (hn : sm next) : PFun Try.prog 65 [ArA x, ArA y, I p, I next] (RwA (innW x y p next)) := by
  unfold sm at h1 h2 h3 h4 h5 h6 hp hn
  have i1 : in63 x.a.t := ⟨by omega, by omega⟩
  have i2 : in63 x.b.t := ⟨by omega, by omega⟩
  have i3 : in63 y.a.t := ⟨by omega, by omega⟩
  have i4 : in63 y.b.t := ⟨by omega, by omega⟩
  have i5 : in63 x.far := ⟨by omega, by omega⟩
  have i6 : in63 y.far := ⟨by omega, by omega⟩
  have iu : in63 65536 := ⟨by omega, by omega⟩
  have j1 : in63 (3 * x.a.t - 65536) := ⟨by omega, by omega⟩
  have j2 : in63 (3 * y.b.t - 65536) := ⟨by omega, by omega⟩
  obtain ⟨p1, b1⟩ := prod5 j1 i2 i2 i4 i6
  obtain ⟨p2, b2⟩ := prod5 j2 i3 i3 i1 i5
  obtain ⟨p3, b3⟩ := prod5 i3 i3 iu i1 i5
  obtain ⟨p4, b4⟩ := prod5 i2 i2 iu i4 i6
  have hdef : innW x y p next = ⟨prodZ [x.b.t, x.b.t, 65536, y.b.t, y.far], prodZ [3 * x.a.t - 65536, x.b.t, x.b.t, y.b.t, y.far] + prodZ [3 * y.b.t - 65536, y.a.t, y.a.t, x.a.t, x.far], prodZ [y.a.t, y.a.t, 65536, x.a.t, x.far], -(prodZ [3 * x.a.t - 65536, x.b.t, x.b.t, y.b.t, y.far] * p + prodZ [y.a.t, y.a.t, 65536, x.a.t, x.far] * next), 0⟩ := rfl
  rw [hdef]
  have w1 : wr (3 * x.a.t) = 3 * x.a.t := wr_in (by omega) (by omega)
  have w2 : wr (3 * x.a.t - 65536) = 3 * x.a.t - 65536 := wr_in (by omega) (by omega)
  have w3 : wr (3 * y.b.t) = 3 * y.b.t := wr_in (by omega) (by omega)
  have w4 : wr (3 * y.b.t - 65536) = 3 * y.b.t - 65536 := wr_in (by omega) (by omega)
  generalize prodZ [3 * x.a.t - 65536, x.b.t, x.b.t, y.b.t, y.far] = P1 at *
  generalize prodZ [3 * y.b.t - 65536, y.a.t, y.a.t, x.a.t, x.far] = P2 at *
  generalize prodZ [y.a.t, y.a.t, 65536, x.a.t, x.far] = P3 at *
  generalize prodZ [x.b.t, x.b.t, 65536, y.b.t, y.far] = P4 at *
  have bp : bd 2 p := bd_int (by omega) (by omega)
  have bn : bd 2 next := bd_int (by omega) (by omega)
  have a1 := plus70 _ _ (bd_sz b1 (by decide)) (bd_sz b2 (by decide))
  have t1 := whole74 p (by omega) (by omega)
  have t2 := whole74 next (by omega) (by omega)
  have m1 := times69 _ _ (bd_sz b1 (by decide)) (bd_sz bp (by decide))
  have m2 := times69 _ _ (bd_sz b3 (by decide)) (bd_sz bn (by decide))
  have a2 := plus70 _ _ (bd_sz (bd_mul b1 bp) (by decide)) (bd_sz (bd_mul b3 bn) (by decide))
  have n1 := neg80 (P1 * p + P3 * next)
  refine PFun.res (R := .g [Bo (decide (P4 < 0)), NatA (dig (P4.natAbs : Int)), Bo (decide (P1 + P2 < 0)), NatA (dig ((P1 + P2).natAbs : Int)), Bo (decide (P3 < 0)), NatA (dig (P3.natAbs : Int)), Bo (decide (-(P1 * p + P3 * next) < 0)), NatA (dig ((-(P1 * p + P3 * next)).natAbs : Int)), Bo false, nilS]) ?_ ?_
  · refine PFun.intro 400 mixed Try.func65 (by kernel_rfl) rfl (by simp only [Cl_g, List.mem_cons, List.not_mem_nil, or_false, forall_eq_or_imp, forall_eq, Cl_v, clNat, and_self]) (Nat.le_of_ble_eq_true rfl) ?_; rw [Try.ntmps65, Try.results65]
    simp -dsimp -implicitDefEqProofs only [go_sem, seval]
    refine AtCode.draw 16 [([], []), ([0], []), ([0, 1], []), ([], []), ([3], []), ([3, 4], []), ([], []), ([6], []), ([6, 7], []), ([], []), ([9], []), ([9, 10], []), ([0, 1, 2], []), ([0, 1, 2, 3, 4, 5, 12], []), ([0, 1, 2, 3, 4, 5, 6, 7, 8, 12, 13], []), ([0, 1, 2, 3, 4, 5, 6, 7, 8, 9, 10, 11, 12, 13, 14], [])] (by kernel_rfl) ?_
    simp -dsimp -implicitDefEqProofs only [go_sem, seval, w1, w2, w3, w4]
    refine AtFn.pure p1 ?_
    simp -dsimp -implicitDefEqProofs only [go_sem, seval, w3, w4]
    refine ⟨rfl, ?_⟩
    refine AtFn.pure p2 ?_
    simp -dsimp -implicitDefEqProofs only [go_sem, seval, w3, w4]
    refine ⟨rfl, ?_⟩
    refine AtFn.pure p3 ?_
    simp -dsimp -implicitDefEqProofs only [go_sem, seval]
    refine ⟨rfl, ?_⟩
    refine AtCode.draw 13 [([], []), ([], []), ([], []), ([], []), ([3], []), ([0, 1, 2, 3, 4], []), ([0, 1, 2, 3, 4, 5], []), ([], []), ([], []), ([0, 1, 2, 3, 4, 5, 6, 7, 8], []), ([], []), ([0, 1, 2, 3, 4, 5, 6, 7, 8, 9, 10], []), ([], []), ([0, 1, 2, 3, 4, 5, 6, 7, 8, 9, 10, 11, 12], [])] (by kernel_rfl) ?_
    simp -dsimp -implicitDefEqProofs only [go_sem, seval]
    refine QFn.use _ p4 (fun a ha => by rcases List.mem_cons.1 ha with rfl | h; exact .ro ((clI [x.b.t, x.b.t, 65536, y.b.t, y.far]).2 trivial); cases h) ?_
    simp -dsimp -implicitDefEqProofs only [go_sem, seval]
    refine QFn.use _ a1 (by simp -dsimp -implicitDefEqProofs only [go_sem, seval]) ?_
    simp -dsimp -implicitDefEqProofs only [go_sem, seval]
    refine AtCode.draw 12 [([], []), ([], []), ([1], []), ([0, 1, 2], []), ([], []), ([], []), ([0, 1, 2, 3, 5], []), ([0, 1, 2, 3, 4, 5, 6], []), ([0, 1, 2, 3, 4, 5, 6, 7], []), ([0, 1, 2, 3, 4, 5, 6, 7, 8], []), ([], []), ([0, 1, 2, 3, 4, 5, 6, 7, 8, 9, 10], []), ([0, 1, 2, 3, 4, 5, 6, 7, 8, 9, 10, 11], [])] (by kernel_rfl) ?_
    simp -dsimp -implicitDefEqProofs only [go_sem, seval]
    refine QFn.use _ t1 (by simp -dsimp -implicitDefEqProofs only [go_sem, seval]) ?_
    simp -dsimp -implicitDefEqProofs only [go_sem, seval]
    refine QFn.use _ m1 (by simp -dsimp -implicitDefEqProofs only [go_sem, seval]) ?_
    simp -dsimp -implicitDefEqProofs only [go_sem, seval]
    refine QFn.use _ t2 (by simp -dsimp -implicitDefEqProofs only [go_sem, seval]) ?_
    simp -dsimp -implicitDefEqProofs only [go_sem, seval]
    refine QFn.use _ m2 (by simp -dsimp -implicitDefEqProofs only [go_sem, seval]) ?_
    simp -dsimp -implicitDefEqProofs only [go_sem, seval]
    refine QFn.use _ a2 (by simp -dsimp -implicitDefEqProofs only [go_sem, seval]) ?_
    simp -dsimp -implicitDefEqProofs only [go_sem, seval]
    refine QFn.use _ n1 (by simp -dsimp -implicitDefEqProofs only [go_sem, seval]) ?_
    simp -dsimp -implicitDefEqProofs only [go_sem, seval]
  · exact Sub.g (.cons (.refl _) (.cons (.refl _) (.cons (.refl _) (.cons (.refl _) (.cons (.refl _) (.cons (.refl _) (.cons (.refl _) (.cons (.refl _) (.cons (.refl _) (.cons (Sub.nil 1) .nil))))))))))
end

section
set_option maxRecDepth 20000
attribute [local go_sem] clU32 clNat clBigT clBigC clI clRwC
def qE (f : Nat → Rw) : Nat → Int
  | 0 => 1
  | 1 => (f 0).m * 1
  | k + 2 => (f (k + 1)).m * qE f (k + 1) - (f (k + 1)).a * ((f k).e * qE f k)
def pE (f : Nat → Rw) (k : Nat) : Int := (f k).e * qE f k
def nE (f : Nat → Rw) (g : Rw → Int) : Nat → Int
  | 0 => g (f 0) * qE f 0
  | k + 1 => g (f (k + 1)) * qE f (k + 1) - (f (k + 1)).a * nE f g k
def xB (f : Nat → Rw) (g : Rw → Int) (n : Nat) : Nat → Int
  | 0 => nE f g (n - 1)
  | j + 1 => (nE f g (n - 2 - j) * qE f n - pE f (n - 2 - j) * xB f g n j) / qE f (n - 1 - j)
def xE (f : Nat → Rw) (g : Rw → Int) (n k : Nat) : Int := xB f g n (n - 1 - k)
theorem xE_step (f : Nat → Rw) (g : Rw → Int) {n k : Nat} (h : k + 1 < n) : xE f g n k = (nE f g k * qE f n - pE f k * xE f g n (k + 1)) / qE f (k + 1) := by
  unfold xE
  rw [show n - 1 - k = (n - 1 - (k + 1)) + 1 by omega]
  simp only [xB]
  rw [show n - 2 - (n - 1 - (k + 1)) = k by omega, show n - 1 - (n - 1 - (k + 1)) = k + 1 by omega]
theorem xE_last (f : Nat → Rw) (g : Rw → Int) {n k : Nat} (h : k + 1 = n) : xE f g n k = nE f g k := by
  unfold xE
  rw [show n - 1 - k = 0 by omega]
  simp only [xB]
  rw [show n - 1 = k by omega]
def zRw : Rw := ⟨0, 0, 0, 0, 0⟩
abbrev P2C (p : Int × Int) : List AV := [Bo (decide (p.1 < 0)), NatA (dig (p.1.natAbs : Int)), Bo (decide (p.2 < 0)), NatA (dig (p.2.natAbs : Int))]
def xs (f : Nat → Rw) (n : Nat) : List (Int × Int) := (List.range n).map fun k => (xE f Rw.r n k, xE f Rw.s n k)
structure ElB (f : Nat → Rw) (n K : Nat) : Prop where
  K2 : 2 * K + 4 < 536870912
  n1 : 1 ≤ n
  n2 : n ≤ 100000
  a : ∀ k, k < n → bd K (f k).a
  m : ∀ k, k < n → bd K (f k).m
  e : ∀ k, k < n → bd K (f k).e
  r : ∀ k, k < n → bd K (f k).r
  s : ∀ k, k < n → bd K (f k).s
  q : ∀ k, k ≤ n → bd K (qE f k)
  p : ∀ k, k < n → bd K (pE f k)
  nr : ∀ k, k < n → bd K (nE f Rw.r k)
  ns : ∀ k, k < n → bd K (nE f Rw.s k)
  xr : ∀ k, k < n → bd K (xE f Rw.r n k)
  xs : ∀ k, k < n → bd K (xE f Rw.s n k)
  pos : ∀ k, k ≤ n → 0 < qE f k
theorem clP2C (p : Int × Int) : (∀ s ∈ P2C p, Cl s) ↔ True := iff_true_intro (by simp only [List.mem_cons, List.not_mem_nil, or_false, forall_eq_or_imp, forall_eq, Cl_v, clNat, and_self])
theorem clP2L (l : List (Int × Int)) : (∀ c ∈ l.map P2C, ∀ s ∈ c, Cl s) ↔ True := iff_true_intro (fun c hc s hs => by obtain ⟨r, _, rfl⟩ := List.mem_map.1 hc; exact (clP2C r).2 trivial s hs)
theorem clBL (l : List Int) : (∀ c ∈ l.map BigC, ∀ s ∈ c, Cl s) ↔ True := iff_true_intro (fun c hc s hs => by obtain ⟨r, _, rfl⟩ := List.mem_map.1 hc; exact (clBigC r).2 trivial s hs)
theorem clRwL (l : List Rw) : (∀ c ∈ l.map RwC, ∀ s ∈ c, Cl s) ↔ True := iff_true_intro (fun c hc s hs => by obtain ⟨r, _, rfl⟩ := List.mem_map.1 hc; exact (clRwC r).2 trivial s hs)
theorem clRwR (x : Rw) : ∀ c ∈ [RwC x], ∀ s ∈ c, Cl s := by
  intro c hc s hs
  simp only [List.mem_cons, List.not_mem_nil, or_false] at hc; subst hc; exact (clRwC x).2 trivial s hs
structure El (f : Nat → Rw) (n k : Nat) (Q : List Int) (N : List (Int × Int)) (P : List Int) : Prop where
  lq : Q.length = n + 1
  ln : N.length = n
  lp : P.length = n
  q : ∀ j, j ≤ k → Q.getD j 0 = qE f j
  p : ∀ j, j < k → P.getD j 0 = pE f j
  nr : ∀ j, j < k → N.getD j (0, 0) = (nE f Rw.r j, nE f Rw.s j)
theorem getD_setG {α : Type} {D : List α} {i j : Nat} {d z : α} (h : j < D.length) : (D.set i d).getD j z = if i = j then d else D.getD j z := by
  simp only [List.getD, List.getElem?_set]
  split
  · rename_i e; subst e; simp [h]
  · rfl
theorem getP2 {D : List (Int × Int)} {i : Nat} (h : i < D.length) : (D.map P2C)[i]? = some (P2C (D.getD i (0, 0))) := by
  rw [List.getElem?_map]; simp [List.getD, h]
theorem getB {D : List Int} {i : Nat} (h : i < D.length) : (D.map BigC)[i]? = some (BigC (D.getD i 0)) := by rw [List.getElem?_map, getI h]; rfl
theorem getRw {D : List Rw} {i : Nat} (h : i < D.length) : (D.map RwC)[i]? = some (RwC (D.getD i zRw)) := by
  rw [List.getElem?_map]; simp [List.getD, h]
theorem setB (D : List Int) (i : Nat) (d : Int) : (D.map BigC).set i (BigC d) = (D.set i d).map BigC := by rw [List.map_set]
theorem setP2 (D : List (Int × Int)) (i : Nat) (d : Int × Int) : (D.map P2C).set i (P2C d) = (D.set i d).map P2C := by rw [List.map_set]
theorem repB (n : Nat) : SubL (List.replicate n [Bo false, nilS]) ((List.replicate n (0 : Int)).map BigC) := by
  rw [List.map_replicate]
  exact SubL.rep (.cons (.refl _) (.cons (Sub.nil 1) .nil)) n
theorem repP (n : Nat) : SubL (List.replicate n [Bo false, nilS, Bo false, nilS]) ((List.replicate n ((0, 0) : Int × Int)).map P2C) := by
  rw [List.map_replicate]
  exact SubL.rep (.cons (.refl _) (.cons (Sub.nil 1) (.cons (.refl _) (.cons (Sub.nil 1) .nil)))) n
end

section
set_option maxRecDepth 20000
attribute [local go_sem] clU32 clNat clBigT clBigC clI clRwC clP2C clP2L clBL clRwL
abbrev P2s (l : List (Int × Int)) : AV := .ro 4 (l.map P2C)
theorem clEl (l : List (Int × Int)) (q : Int) : Cl (.t [P2s l, BigA q]) := by
  simp only [Cl_t, List.mem_cons, List.not_mem_nil, or_false, forall_eq_or_imp, forall_eq, clBigT, and_true]
  exact .ro ((clP2L l).2 trivial)
theorem el_0 (f : Nat → Rw) (n : Nat) : El f n 0 ((List.replicate (n + 1) 0).set 0 1) (List.replicate n (0, 0)) (List.replicate n 0) := by
  refine ⟨by simp, by simp, by simp, fun j hj => ?_, fun j hj => by omega, fun j hj => by omega⟩
  have : j = 0 := by omega
  subst this
  simp [List.getD, qE]
def NI (f : Nat → Rw) (n k : Nat) (N : List (Int × Int)) (i : Nat) (N1 : List (Int × Int)) : Prop := N1.length = n ∧ (∀ j, j < k → N1.getD j (0, 0) = N.getD j (0, 0)) ∧ (0 < i → (N1.getD k (0, 0)).1 = (f k).r * qE f k) ∧ (1 < i → (N1.getD k (0, 0)).2 = (f k).s * qE f k)
theorem set_1 (N : List (Int × Int)) (k : Nat) (v : Int) : (N.map P2C).set k [Bo (decide (v < 0)), NatA (dig (v.natAbs : Int)), Bo (decide ((N.getD k (0, 0)).2 < 0)), NatA (dig ((N.getD k (0, 0)).2.natAbs : Int))] = (N.set k (v, (N.getD k (0, 0)).2)).map P2C := by rw [List.map_set]
theorem set_2 (N : List (Int × Int)) (k : Nat) (v : Int) : (N.map P2C).set k [Bo (decide ((N.getD k (0, 0)).1 < 0)), NatA (dig ((N.getD k (0, 0)).1.natAbs : Int)), Bo (decide (v < 0)), NatA (dig (v.natAbs : Int))] = (N.set k ((N.getD k (0, 0)).1, v)).map P2C := by rw [List.map_set]
theorem ni_1 {f : Nat → Rw} {n k : Nat} {N N1 : List (Int × Int)} (hk : k < n) (h : NI f n k N 0 N1) : NI f n k N 1 (N1.set k ((f k).r * qE f k, (N1.getD k (0, 0)).2)) := by
  obtain ⟨h1, h2, h3, h4⟩ := h
  refine ⟨by rw [List.length_set, h1], fun j hj => ?_, fun _ => ?_, fun h => by omega⟩
  · rw [getD_setG (by omega), if_neg (by omega)]; exact h2 j hj
  · rw [getD_setG (by omega), if_pos rfl]
theorem ni_2 {f : Nat → Rw} {n k : Nat} {N N1 : List (Int × Int)} (hk : k < n) (h : NI f n k N 1 N1) : NI f n k N 2 (N1.set k ((N1.getD k (0, 0)).1, (f k).s * qE f k)) := by
  obtain ⟨h1, h2, h3, h4⟩ := h
  refine ⟨by rw [List.length_set, h1], fun j hj => ?_, fun _ => ?_, fun _ => ?_⟩
  · rw [getD_setG (by omega), if_neg (by omega)]; exact h2 j hj
  · rw [getD_setG (by omega), if_pos rfl]; exact h3 (by decide)
  · rw [getD_setG (by omega), if_pos rfl]
def NJ (f : Nat → Rw) (n k : Nat) (N1 : List (Int × Int)) (i : Nat) (N2 : List (Int × Int)) : Prop := N2.length = n ∧ (∀ j, j < k → N2.getD j (0, 0) = N1.getD j (0, 0)) ∧ ((N2.getD k (0, 0)).1 = match i with | 0 => (f k).r * qE f k | _ => nE f Rw.r k) ∧ ((N2.getD k (0, 0)).2 = match i with | 0 | 1 => (f k).s * qE f k | _ => nE f Rw.s k)
theorem nj_1 {f : Nat → Rw} {n k : Nat} {N N1 : List (Int × Int)} (hk : k < n) (h : NJ f n k N 0 N1) : NJ f n k N 1 (N1.set k (nE f Rw.r k, (N1.getD k (0, 0)).2)) := by
  obtain ⟨h1, h2, h3, h4⟩ := h
  refine ⟨by rw [List.length_set, h1], fun j hj => ?_, ?_, ?_⟩
  · rw [getD_setG (by omega), if_neg (by omega)]; exact h2 j hj
  · rw [getD_setG (by omega), if_pos rfl]; rfl
  · rw [getD_setG (by omega), if_pos rfl]; exact h4
theorem nj_2 {f : Nat → Rw} {n k : Nat} {N N1 : List (Int × Int)} (hk : k < n) (h : NJ f n k N 1 N1) : NJ f n k N 2 (N1.set k ((N1.getD k (0, 0)).1, nE f Rw.s k)) := by
  obtain ⟨h1, h2, h3, h4⟩ := h
  refine ⟨by rw [List.length_set, h1], fun j hj => ?_, ?_, ?_⟩
  · rw [getD_setG (by omega), if_neg (by omega)]; exact h2 j hj
  · rw [getD_setG (by omega), if_pos rfl]; exact h3
  · rw [getD_setG (by omega), if_pos rfl]; rfl
theorem el_step {f : Nat → Rw} {n k : Nat} {Q P Q1 P1 : List Int} {N N1 : List (Int × Int)} {q1 : Int} (h : El f n k Q N P) (hk : k < n) (hQ : Q1 = Q.set (k + 1) q1) (hP : P1 = P.set k ((f k).e * qE f k)) (hl : N1.length = n) (h2 : ∀ j, j < k → N1.getD j (0, 0) = N.getD j (0, 0)) (h3 : N1.getD k (0, 0) = (nE f Rw.r k, nE f Rw.s k)) (hq1 : q1 = qE f (k + 1) := by rfl) : El f n (k + 1) Q1 N1 P1 := by
  subst hQ hP hq1
  refine ⟨by rw [List.length_set, h.lq], hl, by rw [List.length_set, h.lp], fun j hj => ?_, fun j hj => ?_, fun j hj => ?_⟩
  · by_cases e : j = k + 1
    · subst e; rw [getD_setG (by rw [h.lq]; omega), if_pos rfl]
    · rw [getD_setG (by rw [h.lq]; omega), if_neg (by omega)]; exact h.q j (by omega)
  · by_cases e : j = k
    · subst e; rw [getD_setG (by rw [h.lp]; omega), if_pos rfl]; rfl
    · rw [getD_setG (by rw [h.lp]; omega), if_neg (by omega)]; exact h.p j (by omega)
  · by_cases e : j = k
    · subst e; exact h3
    · rw [h2 j (by omega)]; exact h.nr j (by omega)
def XL (f : Nat → Rw) (n c : Nat) (X : List (Int × Int)) : Prop := X.length = n ∧ ∀ j, c ≤ j → j < n → X.getD j (0, 0) = (xE f Rw.r n j, xE f Rw.s n j)
def XI (f : Nat → Rw) (n k : Nat) (X : List (Int × Int)) (i : Nat) (X1 : List (Int × Int)) : Prop := X1.length = n ∧ (∀ j, k < j → X1.getD j (0, 0) = X.getD j (0, 0)) ∧ (0 < i → (X1.getD k (0, 0)).1 = xE f Rw.r n k) ∧ (1 < i → (X1.getD k (0, 0)).2 = xE f Rw.s n k)
theorem getD_outG {α : Type} {D : List α} {i : Nat} {z : α} (h : D.length ≤ i) : D.getD i z = z := by simp [List.getD, List.getElem?_eq_none h]
theorem xl_0 {f : Nat → Rw} {n z : Nat} {N : List (Int × Int)} (hz : n = z + 1) (h : N.getD z (0, 0) = (nE f Rw.r z, nE f Rw.s z)) : XL f n z ((List.replicate n (0, 0)).set z (N.getD z (0, 0))) := by
  refine ⟨by simp, fun j h1 h2 => ?_⟩
  have : j = z := by omega
  subst this
  rw [getD_setG (by simp; omega), if_pos rfl, h, xE_last f Rw.r hz.symm, xE_last f Rw.s hz.symm]
theorem xi_1 {f : Nat → Rw} {n k : Nat} {X X1 : List (Int × Int)} (hk : k < n) (h : XI f n k X 0 X1) : XI f n k X 1 (X1.set k (xE f Rw.r n k, (X1.getD k (0, 0)).2)) := by
  obtain ⟨h1, h2, h3, h4⟩ := h
  refine ⟨by rw [List.length_set, h1], fun j hj => ?_, fun _ => ?_, fun h => absurd h (by decide)⟩
  · by_cases hl : j < X1.length
    · rw [getD_setG hl, if_neg (by omega)]; exact h2 j hj
    · rw [getD_outG (by rw [List.length_set]; omega), ← h2 j hj, getD_outG (by omega)]
  · rw [getD_setG (by omega), if_pos rfl]
theorem xi_2 {f : Nat → Rw} {n k : Nat} {X X1 : List (Int × Int)} (hk : k < n) (h : XI f n k X 1 X1) : XI f n k X 2 (X1.set k ((X1.getD k (0, 0)).1, xE f Rw.s n k)) := by
  obtain ⟨h1, h2, h3, h4⟩ := h
  refine ⟨by rw [List.length_set, h1], fun j hj => ?_, fun _ => ?_, fun _ => ?_⟩
  · by_cases hl : j < X1.length
    · rw [getD_setG hl, if_neg (by omega)]; exact h2 j hj
    · rw [getD_outG (by rw [List.length_set]; omega), ← h2 j hj, getD_outG (by omega)]
  · rw [getD_setG (by omega), if_pos rfl]; exact h3 (by decide)
  · rw [getD_setG (by omega), if_pos rfl]
theorem xl_step {f : Nat → Rw} {n k : Nat} {X X1 : List (Int × Int)} (hk : k < n) (hX : XL f n (k + 1) X) (h : XI f n k X 2 X1) : XL f n k X1 := by
  obtain ⟨h1, h2, h3, h4⟩ := h
  refine ⟨h1, fun j a b => ?_⟩
  by_cases e : j = k
  · subst e; exact Prod.ext (h3 (by decide)) (h4 (by decide))
  · rw [h2 j (by omega)]; exact hX.2 j (by omega) b
theorem xl_end {f : Nat → Rw} {n : Nat} {X : List (Int × Int)} (h : XL f n 0 X) : X = xs f n := by
  refine List.ext_getElem? fun j => ?_
  unfold xs
  by_cases hj : j < n
  · have := h.2 j (Nat.zero_le _) hj
    rw [List.getElem?_map, List.getElem?_range hj, Option.map_some, ← this]
    simp [List.getD, h.1, hj]
  · rw [List.getElem?_eq_none (by rw [h.1]; omega), List.getElem?_eq_none (by simp; omega)]
set_option maxHeartbeats 8000000 in
theorem elim68 (rs : List Rw) (K : Nat) (hB : ElB (fun i => rs.getD i zRw) rs.length K) :
    PFun Try.prog 68 [.ro 10 (rs.map RwC)] (.t [P2s (xs (fun i => rs.getD i zRw) rs.length), BigA (qE (fun i => rs.getD i zRw) rs.length)]) := by
  obtain ⟨n, hn⟩ : ∃ n, n = rs.length := ⟨_, rfl⟩
  obtain ⟨f, hf⟩ : ∃ f : Nat → Rw, f = fun i => rs.getD i zRw := ⟨_, rfl⟩
  rw [← hf, ← hn] at hB ⊢
  have hn1 := hB.n1
  have hn2 := hB.n2
  have hw1 := whole74 1 (by decide) (by decide)
  have w1 : wr (((n : Nat) : Int) + 1) = ((n + 1 : Nat) : Int) := by rw [wr_in] <;> omega
  have c1 : ((n : Nat) : Int) ≤ 274877906944 := by omega
  have c2 : ((n + 1 : Nat) : Int) ≤ 274877906944 := by omega
  refine PFun.intro 400 mixed Try.func68 (by kernel_rfl) rfl (clEl _ _) (Nat.le_of_ble_eq_true rfl) ?_; rw [Try.ntmps68, Try.results68]
  simp -dsimp -implicitDefEqProofs only [go_sem, seval, List.length_map, ← hn]
  refine AtCode.draw 7 [([], []), ([0], []), ([0, 1], []), ([], []), ([3], []), ([0, 1, 2], []), ([0, 1, 2, 3, 4, 5], [])] (by kernel_rfl) ?_
  simp -dsimp -implicitDefEqProofs only [go_sem, seval, w1, c1, c2, Int.natCast_nonneg, Int.le_refl, Int.toNat_natCast]
  refine AtFn.pure0 hw1 ?_
  have g0 : (List.replicate (n + 1) [AV.v (Value.bool false), AV.v (Value.slice none 0 0)])[0]? = some [AV.v (Value.bool false), AV.v (Value.slice none 0 0)] := by simp
  have c3 : (0 : Int) < ((n + 1 : Nat) : Int) := by omega
  simp -dsimp -implicitDefEqProofs only [go_sem, seval, g0, c3]
  have hf0 : ∀ i, f i = rs.getD i zRw := fun i => by rw [hf]
  refine ⟨{p : Nat × List Int × List (Int × Int) × List Int // p.1 ≤ n ∧ El f n p.1 p.2.1 p.2.2.1 p.2.2.2}, fun p => ⟨178, tl [(3, .ptr 0 0 0), (4, I (n : Nat)), (5, .sl 1 0 (n + 1)), (6, .sl 2 0 n), (7, .sl 3 0 n), (26, .ro 10 (rs.map RwC)), (27, I (n : Nat)), (28, I p.1.1)], [(0, ⟨2, [[Bo false, nilS]]⟩), (1, ⟨2, p.1.2.1.map BigC⟩), (2, ⟨4, p.1.2.2.1.map P2C⟩), (3, ⟨2, p.1.2.2.2.map BigC⟩)], 4, .nil⟩, fun p => n - p.1.1,
    ⟨⟨(0, (List.replicate (n + 1) 0).set 0 1, List.replicate n (0, 0), List.replicate n 0), Nat.zero_le _, el_0 f n⟩,
      Le.trans (Le.hsub 3 (b := ⟨2, _⟩) rfl ((repB (n + 1)).set 0 (Subs.refl (BigC 1)))) (Le.trans (Le.hsub 5 (b := ⟨4, _⟩) rfl (repP n)) (Le.trans (Le.hsub 8 (b := ⟨2, _⟩) rfl (repB n)) (Le.tl (Ls := []) (y := none) [(1, 3), (2, 5), (3, 8)] (by simp -dsimp -implicitDefEqProofs only [go_sem, seval, List.length_map, ← hn]) ?_ (by simp) (by simp [sg]) trivial)))⟩, fun p => ?_⟩
  · simp -dsimp -implicitDefEqProofs only [go_sem, seval]
    exact ⟨renL_cl rfl clZ1, renL_cl2 (by rw [← setB]) ((clBL _).2 trivial), renL_cl rfl ((clP2L _).2 trivial), renL_cl rfl ((clBL _).2 trivial)⟩
  obtain ⟨⟨k, Q, N, P⟩, hk, hE⟩ := p
  simp only at hk hE
  simp -dsimp -implicitDefEqProofs only [go_sem, seval]
  refine ⟨fun h9 => ?_, fun h9 => ?_⟩
  · have hlt : k < n := by omega
    have e1 : wr (((k : Nat) : Int) + 1) = ((k + 1 : Nat) : Int) := by rw [wr_in] <;> omega
    have gR := getRw (D := rs) (i := k) (by omega)
    rw [← hf0] at gR
    have gQ := getB (D := Q) (i := k) (by rw [hE.lq]; omega)
    rw [hE.q k (Nat.le_refl _)] at gQ
    have gQ1 := getB (D := Q) (i := k + 1) (by rw [hE.lq]; omega)
    have gP := getB (D := P) (i := k) (by rw [hE.lp]; omega)
    have m1 := times69 (f k).m (qE f k) (bd_sz (hB.m k hlt) (by have := hB.K2; omega)) (bd_sz (hB.q k hk) (by have := hB.K2; omega))
    have m2 := times69 (f k).e (qE f k) (bd_sz (hB.e k hlt) (by have := hB.K2; omega)) (bd_sz (hB.q k hk) (by have := hB.K2; omega))
    have ck : ((k : Nat) : Int) < ((n : Nat) : Int) := by omega
    have ck1 : ((k + 1 : Nat) : Int) < ((n + 1 : Nat) : Int) := by omega
    have ck0 : ((k : Nat) : Int) < ((n + 1 : Nat) : Int) := by omega
    simp -dsimp -implicitDefEqProofs only [go_sem, seval, gR, Int.natCast_nonneg, Int.toNat_natCast]
    refine AtCode.drawB 20 [([], []), ([], []), ([1], []), ([], [1]), ([], [1]), ([], []), ([5], []), ([], []), ([], []), ([7, 8], []), ([7, 8, 9], []), ([5, 6, 7, 8, 9, 10], []), ([], []), ([12], []), ([], []), ([], []), ([14, 15], []), ([14, 15, 16], []), ([5, 6, 7, 8, 9, 10, 11, 12, 13, 14, 15, 16, 17], []), ([0, 1, 2, 5, 6, 7, 8, 9, 10, 11, 12, 13, 14, 15, 16, 17, 18], []), ([0, 1, 2, 5, 6, 7, 8, 9, 10, 11, 12, 13, 14, 15, 16, 17, 18, 19], []), ([0, 1, 2, 3, 4, 5, 6, 7, 8, 9, 10, 11, 12, 13, 14, 15, 16, 17, 18, 19, 20], []), ([0, 1, 2, 3, 4, 5, 6, 7, 8, 9, 10, 11, 12, 13, 14, 15, 16, 17, 18, 19, 20, 21], [])] [false, true, true] (by kernel_rfl) ?_
    simp -dsimp -implicitDefEqProofs only [go_sem, seval, gQ, e1, ck, ck0, Int.natCast_nonneg, Int.toNat_natCast, Nat.zero_add]
    refine QFn.use _ m1 (by simp -dsimp -implicitDefEqProofs only [go_sem, seval]) ?_
    simp -dsimp -implicitDefEqProofs only [go_sem, seval, gQ, e1, ck, ck0, ck1, Int.natCast_nonneg, Int.toNat_natCast, Nat.zero_add]
    refine QFn.use _ m2 (by simp -dsimp -implicitDefEqProofs only [go_sem, seval]) ?_
    simp -dsimp -implicitDefEqProofs only [go_sem, seval, gQ1, gP, e1, ck, ck0, ck1, Int.natCast_nonneg, Int.toNat_natCast, Nat.zero_add, setB]
    refine ⟨by kernel_rfl, ?_⟩
    have t1 := times69 (f k).r (qE f k) (bd_sz (hB.r k hlt) (by have := hB.K2; omega)) (bd_sz (hB.q k hk) (by have := hB.K2; omega))
    have t2 := times69 (f k).s (qE f k) (bd_sz (hB.s k hlt) (by have := hB.K2; omega)) (bd_sz (hB.q k hk) (by have := hB.K2; omega))
    have gQ' := getB (D := Q.set (k + 1) ((f k).m * qE f k)) (i := k) (by rw [List.length_set, hE.lq]; omega)
    rw [getD_setI (by rw [hE.lq]; omega), if_neg (by omega), hE.q k (Nat.le_refl _)] at gQ'
    obtain ⟨Q1, hQ1⟩ : ∃ Q1, Q1 = Q.set (k + 1) ((f k).m * qE f k) := ⟨_, rfl⟩
    obtain ⟨P1, hP1⟩ : ∃ P1, P1 = P.set k ((f k).e * qE f k) := ⟨_, rfl⟩
    rw [← hQ1] at gQ' ⊢
    rw [← hP1]
    refine ⟨{p : Nat × List (Int × Int) // p.1 ≤ 2 ∧ NI f n k N p.1 p.2}, fun p => ⟨178, tl [(3, .ptr 0 0 0), (4, I (n : Nat)), (5, .sl 1 0 (n + 1)), (6, .sl 2 0 n), (7, .sl 3 0 n), (8, I (k : Nat)), (9, .ptr 4 0 0), (26, .ro 10 (rs.map RwC)), (27, I (n : Nat)), (28, I (k : Nat)), (54, I p.1.1)], [(0, ⟨2, [[Bo false, nilS]]⟩), (1, ⟨2, Q1.map BigC⟩), (2, ⟨4, p.1.2.map P2C⟩), (3, ⟨2, P1.map BigC⟩), (4, ⟨10, [RwC (f k)]⟩)], 5, .nil⟩, fun p => 2 - p.1.1,
      ⟨⟨(0, N), Nat.zero_le _, hE.ln, fun _ _ => rfl, fun h => by omega, fun h => by omega⟩, Le.tl (Ls := []) (y := none) [] (by simp -dsimp -implicitDefEqProofs only [go_sem, seval]) ?_ (by simp) (by simp [sg]) trivial⟩, fun p => ?_⟩
    · simp -dsimp -implicitDefEqProofs only [go_sem, seval]
      exact ⟨renL_cl rfl clZ1, renL_cl rfl ((clBL _).2 trivial), renL_cl rfl ((clP2L _).2 trivial), renL_cl rfl ((clBL _).2 trivial), renL_cl rfl (clRwR _)⟩
    obtain ⟨⟨i, N1⟩, hi, hN⟩ := p
    simp only at hi hN
    have hN' := hN
    obtain ⟨n1, n2, n3, n4⟩ := hN
    have gN := getP2 (D := N1) (i := k) (by omega)
    match i, hi with
    | 0, _ =>
      simp -dsimp -implicitDefEqProofs only [go_sem, seval]
      refine AtCode.draw 14 [([], []), ([], []), ([], []), ([], []), ([], []), ([3, 4], []), ([3, 4, 5], []), ([], []), ([], []), ([7, 8], []), ([7, 8, 9], []), ([3, 4, 5, 6, 7, 8, 9, 10], []), ([0, 1], []), ([0, 1, 2, 3, 4, 5, 6, 7, 8, 9, 10, 11, 12], []), ([0, 1, 2, 3, 4, 5, 6, 7, 8, 9, 10, 11, 12, 13], [])] (by kernel_rfl) ?_
      simp -dsimp -implicitDefEqProofs only [go_sem, seval, gQ', e1, ck, ck0, ck1, Int.natCast_nonneg, Int.toNat_natCast, Nat.zero_add, show (0 : Int) < 2 by decide]
      refine QFn.use _ t1 (by simp -dsimp -implicitDefEqProofs only [go_sem, seval]) ?_
      have hs := set_1 N1 k ((f k).r * qE f k)
      simp -dsimp -implicitDefEqProofs (maxSteps := 1000000) only [go_sem, ↓reduceIte, Nat.reduceAdd, Nat.reduceSub, Nat.reduceMul, Nat.reduceLT, Nat.reduceLeDiff, Nat.reduceEqDiff, Nat.reduceBEq, Nat.reduceBNe, Int.reduceToNat, Int.reduceLT, Int.reduceLE, Int.reduceNeg, reduceCtorEq, Int.reduceEq, Int.reduceNe, gN, ck, Int.natCast_nonneg, Int.toNat_natCast, Nat.zero_add, show (0 : Int) < 2 by decide, show (0 : Int) ≤ 0 by decide]
      simp only [hs]
      refine ⟨⟨(1, N1.set k ((f k).r * qE f k, (N1.getD k (0, 0)).2)), Nat.le_of_ble_eq_true rfl, ni_1 hlt hN'⟩, by show 2 - 1 < 2 - 0; decide, Le.tl (Ls := []) (y := none) [] (by simp -dsimp -implicitDefEqProofs (maxSteps := 1000000) only [go_sem, ↓reduceIte, Nat.reduceAdd, Nat.reduceSub, Nat.reduceMul, Nat.reduceLT, Nat.reduceLeDiff, Nat.reduceEqDiff, Nat.reduceBEq, Nat.reduceBNe, Int.reduceToNat, Int.reduceLT, Int.reduceLE, Int.reduceNeg, reduceCtorEq, Int.reduceEq, Int.reduceNe, show wr (0 + 1) = 1 by decide]) ?_ (by simp) (by simp [sg]) trivial⟩
      simp -dsimp -implicitDefEqProofs only [go_sem, seval]
      exact ⟨renL_cl rfl clZ1, renL_cl rfl ((clBL _).2 trivial), renL_cl rfl ((clP2L _).2 trivial), renL_cl rfl ((clBL _).2 trivial), renL_cl rfl (clRwR _)⟩
    | 1, _ =>
      simp -dsimp -implicitDefEqProofs only [go_sem, seval]
      refine AtCode.draw 14 [([], []), ([], []), ([], []), ([], []), ([], []), ([3, 4], []), ([3, 4, 5], []), ([], []), ([], []), ([7, 8], []), ([7, 8, 9], []), ([3, 4, 5, 6, 7, 8, 9, 10], []), ([0, 1], []), ([0, 1, 2, 3, 4, 5, 6, 7, 8, 9, 10, 11, 12], []), ([0, 1, 2, 3, 4, 5, 6, 7, 8, 9, 10, 11, 12, 13], [])] (by kernel_rfl) ?_
      simp -dsimp -implicitDefEqProofs only [go_sem, seval, gQ', e1, ck, ck0, ck1, Int.natCast_nonneg, Int.toNat_natCast, Nat.zero_add, show (1 : Int) < 2 by decide]
      refine QFn.use _ t2 (by simp -dsimp -implicitDefEqProofs only [go_sem, seval]) ?_
      have hs := set_2 N1 k ((f k).s * qE f k)
      simp -dsimp -implicitDefEqProofs (maxSteps := 1000000) only [go_sem, ↓reduceIte, Nat.reduceAdd, Nat.reduceSub, Nat.reduceMul, Nat.reduceLT, Nat.reduceLeDiff, Nat.reduceEqDiff, Nat.reduceBEq, Nat.reduceBNe, Int.reduceToNat, Int.reduceLT, Int.reduceLE, Int.reduceNeg, reduceCtorEq, Int.reduceEq, Int.reduceNe, gN, ck, Int.natCast_nonneg, Int.toNat_natCast, Nat.zero_add, show (1 : Int) < 2 by decide, show (0 : Int) ≤ 1 by decide]
      simp only [hs]
      refine ⟨⟨(2, N1.set k ((N1.getD k (0, 0)).1, (f k).s * qE f k)), Nat.le_of_ble_eq_true rfl, ni_2 hlt hN'⟩, by show 2 - 2 < 2 - 1; decide, Le.tl (Ls := []) (y := none) [] (by simp -dsimp -implicitDefEqProofs (maxSteps := 1000000) only [go_sem, ↓reduceIte, Nat.reduceAdd, Nat.reduceSub, Nat.reduceMul, Nat.reduceLT, Nat.reduceLeDiff, Nat.reduceEqDiff, Nat.reduceBEq, Nat.reduceBNe, Int.reduceToNat, Int.reduceLT, Int.reduceLE, Int.reduceNeg, reduceCtorEq, Int.reduceEq, Int.reduceNe, show wr (1 + 1) = 2 by decide]) ?_ (by simp) (by simp [sg]) trivial⟩
      simp -dsimp -implicitDefEqProofs only [go_sem, seval]
      exact ⟨renL_cl rfl clZ1, renL_cl rfl ((clBL _).2 trivial), renL_cl rfl ((clP2L _).2 trivial), renL_cl rfl ((clBL _).2 trivial), renL_cl rfl (clRwR _)⟩
    | 2, _ =>
      have n3 := n3 (by decide)
      have n4 := n4 (by decide)
      simp -dsimp -implicitDefEqProofs only [go_sem, seval]
      refine ⟨fun hk0 => ?_, fun hk0 => ?_⟩
      · obtain ⟨j, hj⟩ : ∃ j, k = j + 1 := ⟨k - 1, by omega⟩
        have e2 : wr (((k : Nat) : Int) - 1) = ((j : Nat) : Int) := by rw [wr_in] <;> omega
        have cj : ((j : Nat) : Int) < ((n : Nat) : Int) := by omega
        have gPj := getB (D := P1) (i := j) (by rw [hP1, List.length_set, hE.lp]; omega)
        rw [hP1, getD_setI (by rw [hE.lp]; omega), if_neg (by omega), hE.p j (by omega), ← hP1] at gPj
        have gQk := getB (D := Q1) (i := k + 1) (by rw [hQ1, List.length_set, hE.lq]; omega)
        rw [hQ1, getD_setI (by rw [hE.lq]; omega), if_pos rfl, ← hQ1] at gQk
        have K2 := hB.K2
        have v1 := times69 (f k).a (pE f j) (bd_sz (hB.a k hlt) (by omega)) (bd_sz (hB.p j (by omega)) (by omega))
        have v2 := minus67 ((f k).m * qE f k) ((f k).a * pE f j) (bd_sz (bd_mul (hB.m k hlt) (hB.q k hk)) (by omega)) (bd_sz (bd_mul (hB.a k hlt) (hB.p j (by omega))) (by omega))
        have hqk : (f k).m * qE f k - (f k).a * pE f j = qE f (k + 1) := by subst hj; rfl
        rw [hqk] at v2
        refine AtCode.draw 18 [([], []), ([], []), ([1], []), ([], []), ([], []), ([4], []), ([3, 4, 5], []), ([3, 4, 5, 6], []), ([], []), ([8], []), ([], []), ([], []), ([11], []), ([10, 11, 12], []), ([10, 11, 12, 13], []), ([8, 9, 10, 11, 12, 13, 14], []), ([3, 4, 5, 6, 7, 8, 9, 10, 11, 12, 13, 14, 15], []), ([0, 1, 2, 3, 4, 5, 6, 7, 8, 9, 10, 11, 12, 13, 14, 15, 16], []), ([0, 1, 2, 3, 4, 5, 6, 7, 8, 9, 10, 11, 12, 13, 14, 15, 16, 17], [])] (by kernel_rfl) ?_
        simp -dsimp -implicitDefEqProofs only [go_sem, seval, gQk, gPj, e1, e2, ck, ck0, ck1, cj, Int.natCast_nonneg, Int.toNat_natCast, Nat.zero_add]
        refine QFn.use _ v1 (by simp -dsimp -implicitDefEqProofs only [go_sem, seval]) ?_
        simp -dsimp -implicitDefEqProofs only [go_sem, seval]
        refine QFn.use _ v2 (by simp -dsimp -implicitDefEqProofs only [go_sem, seval]) ?_
        simp -dsimp -implicitDefEqProofs only [go_sem, seval, gQk, e1, ck1, Int.natCast_nonneg, Int.toNat_natCast, Nat.zero_add, setB]
        have hgj : N1.getD j (0, 0) = (nE f Rw.r j, nE f Rw.s j) := by rw [n2 j (by omega)]; exact hE.nr j (by omega)
        obtain ⟨Q2, hQ2⟩ : ∃ Q2, Q2 = Q1.set (k + 1) (qE f (k + 1)) := ⟨_, rfl⟩
        rw [← hQ2]
        refine ⟨{p : Nat × List (Int × Int) // p.1 ≤ 2 ∧ NJ f n k N1 p.1 p.2}, fun p => ⟨178, tl [(3, .ptr 0 0 0), (4, I (n : Nat)), (5, .sl 1 0 (n + 1)), (6, .sl 2 0 n), (7, .sl 3 0 n), (8, I (k : Nat)), (9, .ptr 4 0 0), (26, .ro 10 (rs.map RwC)), (27, I (n : Nat)), (28, I (k : Nat)), (92, I p.1.1)], [(0, ⟨2, [[Bo false, nilS]]⟩), (1, ⟨2, Q2.map BigC⟩), (2, ⟨4, p.1.2.map P2C⟩), (3, ⟨2, P1.map BigC⟩), (4, ⟨10, [RwC (f k)]⟩)], 5, .nil⟩, fun p => 2 - p.1.1,
          ⟨⟨(0, N1), Nat.zero_le _, n1, fun _ _ => rfl, n3, n4⟩, Le.tl (Ls := []) (y := none) [] (by simp -dsimp -implicitDefEqProofs only [go_sem, seval]) ?_ (by simp) (by simp [sg]) trivial⟩, fun p => ?_⟩
        · simp -dsimp -implicitDefEqProofs only [go_sem, seval]
          exact ⟨renL_cl rfl clZ1, renL_cl rfl ((clBL _).2 trivial), renL_cl rfl ((clP2L _).2 trivial), renL_cl rfl ((clBL _).2 trivial), renL_cl rfl (clRwR _)⟩
        obtain ⟨⟨i, N2⟩, hi, hN2⟩ := p
        simp only at hi hN2
        have hN2' := hN2
        obtain ⟨o1, o2, o3, o4⟩ := hN2
        have gN2 := getP2 (D := N2) (i := k) (by omega)
        have gN2j := getP2 (D := N2) (i := j) (by omega)
        rw [o2 j (by omega), hgj] at gN2j
        match i, hi with
        | 0, _ =>
          have o3 : (N2.getD k (0, 0)).1 = (f k).r * qE f k := o3
          have u1 := times69 (f k).a (nE f Rw.r j) (bd_sz (hB.a k hlt) (by omega)) (bd_sz (hB.nr j (by omega)) (by omega))
          have u2 := minus67 ((f k).r * qE f k) ((f k).a * nE f Rw.r j) (bd_sz (bd_mul (hB.r k hlt) (hB.q k hk)) (by omega)) (bd_sz (bd_mul (hB.a k hlt) (hB.nr j (by omega))) (by omega))
          have hnk : (f k).r * qE f k - (f k).a * nE f Rw.r j = nE f Rw.r k := by subst hj; rfl
          rw [hnk, ← o3] at u2
          simp -dsimp -implicitDefEqProofs only [go_sem, seval]
          refine AtCode.draw 22 [([], []), ([], []), ([], []), ([], []), ([], []), ([], []), ([3, 4], []), ([3, 4, 5, 6], []), ([3, 4, 5, 6, 7], []), ([], []), ([9], []), ([], []), ([], []), ([12], []), ([], []), ([11, 12, 13], []), ([11, 12, 13, 14, 15], []), ([11, 12, 13, 14, 15, 16], []), ([9, 10, 11, 12, 13, 14, 15, 16, 17], []), ([3, 4, 5, 6, 7, 8, 9, 10, 11, 12, 13, 14, 15, 16, 17, 18], []), ([0, 1], []), ([0, 1, 2, 3, 4, 5, 6, 7, 8, 9, 10, 11, 12, 13, 14, 15, 16, 17, 18, 19, 20], []), ([0, 1, 2, 3, 4, 5, 6, 7, 8, 9, 10, 11, 12, 13, 14, 15, 16, 17, 18, 19, 20, 21], [])] (by kernel_rfl) ?_
          simp -dsimp -implicitDefEqProofs only [go_sem, seval, gN2, gN2j, e1, e2, ck, cj, Int.natCast_nonneg, Int.toNat_natCast, Nat.zero_add, show (0 : Int) < 2 by decide, show (0 : Int) ≤ 0 by decide]
          refine QFn.use _ u1 (by simp -dsimp -implicitDefEqProofs only [go_sem, seval]) ?_
          simp -dsimp -implicitDefEqProofs only [go_sem, seval]
          refine QFn.use _ u2 (by simp -dsimp -implicitDefEqProofs only [go_sem, seval]) ?_
          have hs := set_1 N2 k (nE f Rw.r k)
          simp -dsimp -implicitDefEqProofs (maxSteps := 1000000) only [go_sem, ↓reduceIte, Nat.reduceAdd, Nat.reduceSub, Nat.reduceMul, Nat.reduceLT, Nat.reduceLeDiff, Nat.reduceEqDiff, Nat.reduceBEq, Nat.reduceBNe, Int.reduceToNat, Int.reduceLT, Int.reduceLE, Int.reduceNeg, reduceCtorEq, Int.reduceEq, Int.reduceNe, gN2, ck, Int.natCast_nonneg, Int.toNat_natCast, Nat.zero_add, show (0 : Int) < 2 by decide, show (0 : Int) ≤ 0 by decide]
          simp only [hs]
          refine ⟨⟨(1, _), Nat.le_of_ble_eq_true rfl, nj_1 hlt hN2'⟩, by show 2 - 1 < 2 - 0; decide, Le.tl (Ls := []) (y := none) [] (by simp -dsimp -implicitDefEqProofs (maxSteps := 1000000) only [go_sem, ↓reduceIte, Nat.reduceAdd, Nat.reduceSub, Nat.reduceMul, Nat.reduceLT, Nat.reduceLeDiff, Nat.reduceEqDiff, Nat.reduceBEq, Nat.reduceBNe, Int.reduceToNat, Int.reduceLT, Int.reduceLE, Int.reduceNeg, reduceCtorEq, Int.reduceEq, Int.reduceNe, show wr (0 + 1) = 1 by decide]) ?_ (by simp) (by simp [sg]) trivial⟩
          simp -dsimp -implicitDefEqProofs only [go_sem, seval]
          exact ⟨renL_cl rfl clZ1, renL_cl rfl ((clBL _).2 trivial), renL_cl rfl ((clP2L _).2 trivial), renL_cl rfl ((clBL _).2 trivial), renL_cl rfl (clRwR _)⟩
        | 1, _ =>
          have o4 : (N2.getD k (0, 0)).2 = (f k).s * qE f k := o4
          have u1 := times69 (f k).a (nE f Rw.s j) (bd_sz (hB.a k hlt) (by omega)) (bd_sz (hB.ns j (by omega)) (by omega))
          have u2 := minus67 ((f k).s * qE f k) ((f k).a * nE f Rw.s j) (bd_sz (bd_mul (hB.s k hlt) (hB.q k hk)) (by omega)) (bd_sz (bd_mul (hB.a k hlt) (hB.ns j (by omega))) (by omega))
          have hnk : (f k).s * qE f k - (f k).a * nE f Rw.s j = nE f Rw.s k := by subst hj; rfl
          rw [hnk, ← o4] at u2
          simp -dsimp -implicitDefEqProofs only [go_sem, seval]
          refine AtCode.draw 22 [([], []), ([], []), ([], []), ([], []), ([], []), ([], []), ([3, 4], []), ([3, 4, 5, 6], []), ([3, 4, 5, 6, 7], []), ([], []), ([9], []), ([], []), ([], []), ([12], []), ([], []), ([11, 12, 13], []), ([11, 12, 13, 14, 15], []), ([11, 12, 13, 14, 15, 16], []), ([9, 10, 11, 12, 13, 14, 15, 16, 17], []), ([3, 4, 5, 6, 7, 8, 9, 10, 11, 12, 13, 14, 15, 16, 17, 18], []), ([0, 1], []), ([0, 1, 2, 3, 4, 5, 6, 7, 8, 9, 10, 11, 12, 13, 14, 15, 16, 17, 18, 19, 20], []), ([0, 1, 2, 3, 4, 5, 6, 7, 8, 9, 10, 11, 12, 13, 14, 15, 16, 17, 18, 19, 20, 21], [])] (by kernel_rfl) ?_
          simp -dsimp -implicitDefEqProofs only [go_sem, seval, gN2, gN2j, e1, e2, ck, cj, Int.natCast_nonneg, Int.toNat_natCast, Nat.zero_add, show (1 : Int) < 2 by decide, show (0 : Int) ≤ 1 by decide]
          refine QFn.use _ u1 (by simp -dsimp -implicitDefEqProofs only [go_sem, seval]) ?_
          simp -dsimp -implicitDefEqProofs only [go_sem, seval]
          refine QFn.use _ u2 (by simp -dsimp -implicitDefEqProofs only [go_sem, seval]) ?_
          have hs := set_2 N2 k (nE f Rw.s k)
          simp -dsimp -implicitDefEqProofs (maxSteps := 1000000) only [go_sem, ↓reduceIte, Nat.reduceAdd, Nat.reduceSub, Nat.reduceMul, Nat.reduceLT, Nat.reduceLeDiff, Nat.reduceEqDiff, Nat.reduceBEq, Nat.reduceBNe, Int.reduceToNat, Int.reduceLT, Int.reduceLE, Int.reduceNeg, reduceCtorEq, Int.reduceEq, Int.reduceNe, gN2, ck, Int.natCast_nonneg, Int.toNat_natCast, Nat.zero_add, show (1 : Int) < 2 by decide, show (0 : Int) ≤ 1 by decide]
          simp only [hs]
          refine ⟨⟨(2, _), Nat.le_of_ble_eq_true rfl, nj_2 hlt hN2'⟩, by show 2 - 2 < 2 - 1; decide, Le.tl (Ls := []) (y := none) [] (by simp -dsimp -implicitDefEqProofs (maxSteps := 1000000) only [go_sem, ↓reduceIte, Nat.reduceAdd, Nat.reduceSub, Nat.reduceMul, Nat.reduceLT, Nat.reduceLeDiff, Nat.reduceEqDiff, Nat.reduceBEq, Nat.reduceBNe, Int.reduceToNat, Int.reduceLT, Int.reduceLE, Int.reduceNeg, reduceCtorEq, Int.reduceEq, Int.reduceNe, show wr (1 + 1) = 2 by decide]) ?_ (by simp) (by simp [sg]) trivial⟩
          simp -dsimp -implicitDefEqProofs only [go_sem, seval]
          exact ⟨renL_cl rfl clZ1, renL_cl rfl ((clBL _).2 trivial), renL_cl rfl ((clP2L _).2 trivial), renL_cl rfl ((clBL _).2 trivial), renL_cl rfl (clRwR _)⟩
        | 2, _ =>
          have o3 : (N2.getD k (0, 0)).1 = nE f Rw.r k := o3
          have o4 : (N2.getD k (0, 0)).2 = nE f Rw.s k := o4
          simp -dsimp -implicitDefEqProofs only [go_sem, seval]
          refine ⟨⟨(k + 1, Q2, N2, P1), by show k + 1 ≤ n; omega, el_step hE hlt (by rw [hQ2, hQ1, List.set_set]) hP1 o1 (fun i hi => by rw [o2 i hi, n2 i hi]) (Prod.ext o3 o4)⟩, by show n - (k + 1) < n - k; omega, Le.tl (Ls := []) (y := none) [] (by simp -dsimp -implicitDefEqProofs only [go_sem, seval, e1]) ?_ (by simp) (by simp [sg]) trivial⟩
          simp -dsimp -implicitDefEqProofs only [go_sem, seval]
          exact ⟨renL_cl rfl clZ1, renL_cl rfl ((clBL _).2 trivial), renL_cl rfl ((clP2L _).2 trivial), renL_cl rfl ((clBL _).2 trivial)⟩
      · have hk0 : k = 0 := by omega
        refine ⟨⟨(k + 1, Q1, N1, P1), by show k + 1 ≤ n; omega, ?_⟩, by show n - (k + 1) < n - k; omega, Le.tl (Ls := []) (y := none) [] (by simp -dsimp -implicitDefEqProofs only [go_sem, seval, e1]) ?_ (by simp) (by simp [sg]) trivial⟩
        · refine el_step (q1 := qE f (k + 1)) hE hlt (by rw [hQ1]; congr 1; subst hk0; rfl) hP1 n1 n2 ?_
          subst hk0
          exact Prod.ext n3 n4
        simp -dsimp -implicitDefEqProofs only [go_sem, seval]
        exact ⟨renL_cl rfl clZ1, renL_cl rfl ((clBL _).2 trivial), renL_cl rfl ((clP2L _).2 trivial), renL_cl rfl ((clBL _).2 trivial)⟩
  · have hkn : k = n := by omega
    subst hkn
    have gQn := getB (D := Q) (i := k) (by rw [hE.lq]; omega)
    rw [hE.q k (Nat.le_refl _)] at gQn
    have ckk : ((k : Nat) : Int) < ((k + 1 : Nat) : Int) := by omega
    obtain ⟨z, hz⟩ : ∃ z, k = z + 1 := ⟨k - 1, by omega⟩
    have e2 : wr (((k : Nat) : Int) - 1) = ((z : Nat) : Int) := by rw [wr_in] <;> omega
    have e3 : wr (((k : Nat) : Int) - 2) = ((z : Nat) : Int) - 1 := by rw [wr_in] <;> omega
    have cz : ((z : Nat) : Int) < ((k : Nat) : Int) := by omega
    have gNz := getP2 (D := N) (i := z) (by rw [hE.ln]; omega)
    have gXz : (List.replicate k [AV.v (Value.bool false), AV.v (Value.slice none 0 0), AV.v (Value.bool false), AV.v (Value.slice none 0 0)])[z]? = some [AV.v (Value.bool false), AV.v (Value.slice none 0 0), AV.v (Value.bool false), AV.v (Value.slice none 0 0)] := by
      rw [List.getElem?_replicate, if_pos (by omega)]
    refine AtCode.drawB 6 [([], []), ([], []), ([0, 1], []), ([0, 1, 2], []), ([], [0]), ([4], [0]), ([0, 1, 2, 3], []), ([0, 1, 2, 3, 4, 5, 6], [])] [false, true] (by kernel_rfl) ?_
    simp -dsimp -implicitDefEqProofs only [go_sem, seval, gQn, ckk, c1, Int.natCast_nonneg, Int.toNat_natCast, Nat.zero_add, Int.le_refl]
    simp -dsimp -implicitDefEqProofs only [go_sem, seval, e2, e3, gNz, gXz, cz, Int.natCast_nonneg, Int.toNat_natCast, Nat.zero_add]
    refine ⟨by kernel_rfl, ?_⟩
    have K2 := hB.K2
    refine ⟨{p : Nat × List (Int × Int) // p.1 + 1 ≤ k ∧ XL f k p.1 p.2}, fun p => ⟨178, tl [(2, .sl 4 0 k), (3, .ptr 0 0 0), (4, I (k : Nat)), (5, .sl 1 0 (k + 1)), (6, .sl 2 0 k), (7, .sl 3 0 k), (12, I ((p.1.1 : Int) - 1))], [(0, ⟨2, [BigC (qE f k)]⟩), (1, ⟨2, Q.map BigC⟩), (2, ⟨4, N.map P2C⟩), (3, ⟨2, P.map BigC⟩), (4, ⟨4, p.1.2.map P2C⟩)], 5, .nil⟩, fun p => p.1.1,
      ⟨⟨(z, (List.replicate k (0, 0)).set z (N.getD z (0, 0))), by show z + 1 ≤ k; omega, xl_0 hz (hE.nr z (by omega))⟩,
        Le.trans (Le.hsub 9 (b := ⟨4, _⟩) rfl ((repP k).set z (Subs.refl (P2C (N.getD z (0, 0)))))) (Le.tl (Ls := []) (y := none) [(4, 9)] (by simp -dsimp -implicitDefEqProofs only [go_sem, seval]) ?_ (by simp) (by simp [sg]) trivial)⟩, fun p => ?_⟩
    · simp -dsimp -implicitDefEqProofs only [go_sem, seval]
      exact ⟨renL_cl rfl (clB1 _), renL_cl rfl ((clBL _).2 trivial), renL_cl rfl ((clP2L _).2 trivial), renL_cl rfl ((clBL _).2 trivial), renL_cl2 (by rw [← setP2]) ((clP2L _).2 trivial)⟩
    obtain ⟨⟨c, X⟩, hc, hX⟩ := p
    simp only at hc hX
    simp -dsimp -implicitDefEqProofs only [go_sem, seval]
    refine ⟨fun h10 => ?_, fun h10 => ?_⟩
    · obtain ⟨j, rfl⟩ : ∃ j, c = j + 1 := ⟨c - 1, by omega⟩
      have jk : j < k := by omega
      have f1 : ((j + 1 : Nat) : Int) - 1 = ((j : Nat) : Int) := by omega
      have f2 : wr (((j : Nat) : Int) + 1) = ((j + 1 : Nat) : Int) := by rw [wr_in] <;> omega
      have f3 : wr (((j : Nat) : Int) - 1) = ((j : Nat) : Int) - 1 := by rw [wr_in] <;> omega
      have cj : ((j : Nat) : Int) < ((k : Nat) : Int) := by omega
      have cj1 : ((j + 1 : Nat) : Int) < ((k : Nat) : Int) := by omega
      have cj2 : ((j + 1 : Nat) : Int) < ((k + 1 : Nat) : Int) := by omega
      have gNj := getP2 (D := N) (i := j) (by rw [hE.ln]; omega)
      rw [hE.nr j jk] at gNj
      have gPj := getB (D := P) (i := j) (by rw [hE.lp]; omega)
      rw [hE.p j jk] at gPj
      have gQj := getB (D := Q) (i := j + 1) (by rw [hE.lq]; omega)
      rw [hE.q (j + 1) (by omega)] at gQj
      have bqk := hB.q k (Nat.le_refl _)
      have bqj := hB.q (j + 1) (by omega)
      have bpj := hB.p j jk
      simp -dsimp -implicitDefEqProofs only [go_sem, seval, f1]
      refine ⟨{p : Nat × List (Int × Int) // p.1 ≤ 2 ∧ XI f k j X p.1 p.2}, fun p => ⟨178, tl [(2, .sl 4 0 k), (3, .ptr 0 0 0), (4, I (k : Nat)), (5, .sl 1 0 (k + 1)), (6, .sl 2 0 k), (7, .sl 3 0 k), (12, I (j : Nat)), (140, I p.1.1)], [(0, ⟨2, [BigC (qE f k)]⟩), (1, ⟨2, Q.map BigC⟩), (2, ⟨4, N.map P2C⟩), (3, ⟨2, P.map BigC⟩), (4, ⟨4, p.1.2.map P2C⟩)], 5, .nil⟩, fun p => 2 - p.1.1,
        ⟨⟨(0, X), Nat.zero_le _, hX.1, fun _ _ => rfl, fun h => absurd h (Nat.lt_irrefl _), fun h => absurd h (Nat.not_lt_zero _)⟩, Le.tl (Ls := []) (y := none) [] (by simp -dsimp -implicitDefEqProofs only [go_sem, seval]) ?_ (by simp) (by simp [sg]) trivial⟩, fun p => ?_⟩
      · simp -dsimp -implicitDefEqProofs only [go_sem, seval]
        exact ⟨renL_cl rfl (clB1 _), renL_cl rfl ((clBL _).2 trivial), renL_cl rfl ((clP2L _).2 trivial), renL_cl rfl ((clBL _).2 trivial), renL_cl rfl ((clP2L _).2 trivial)⟩
      obtain ⟨⟨i, X1⟩, hi, hX1⟩ := p
      simp only at hi hX1
      have hX1' := hX1
      obtain ⟨o1, o2, o3, o4⟩ := hX1
      have gX := getP2 (D := X1) (i := j) (by omega)
      have gX1 := getP2 (D := X1) (i := j + 1) (by omega)
      rw [o2 (j + 1) (by omega), hX.2 (j + 1) (by omega) (by omega)] at gX1
      match i, hi with
      | 0, _ =>
        have u1 := times69 (nE f Rw.r j) (qE f k) (bd_sz (hB.nr j jk) (by omega)) (bd_sz bqk (by omega))
        have u2 := times69 (pE f j) (xE f Rw.r k (j + 1)) (bd_sz bpj (by omega)) (bd_sz (hB.xr (j + 1) (by omega)) (by omega))
        have u3 := minus67 (nE f Rw.r j * qE f k) (pE f j * xE f Rw.r k (j + 1)) (bd_sz (bd_mul (hB.nr j jk) bqk) (by omega)) (bd_sz (bd_mul bpj (hB.xr (j + 1) (by omega))) (by omega))
        have u4 := floor81 (nE f Rw.r j * qE f k - pE f j * xE f Rw.r k (j + 1)) (qE f (j + 1)) (hB.pos (j + 1) (by omega)) (bd_sz (bd_sub (bd_mul (hB.nr j jk) bqk) (bd_mul bpj (hB.xr (j + 1) (by omega)))) (by omega)) (bd_sz bqj (by omega))
        rw [← xE_step f Rw.r (show j + 1 < k by omega)] at u4
        simp -dsimp -implicitDefEqProofs only [go_sem, seval]
        refine AtCode.draw 32 [([], []), ([], []), ([], []), ([], []), ([], []), ([], []), ([3, 4], []), ([3, 4, 5, 6], []), ([3, 4, 5, 6, 7], []), ([], []), ([3, 4, 5, 6, 7, 8, 9], []), ([], []), ([], []), ([11, 12], []), ([11, 12, 13], []), ([], []), ([], []), ([16], []), ([], []), ([15, 16, 17], []), ([15, 16, 17, 18, 19], []), ([15, 16, 17, 18, 19, 20], []), ([3, 4, 5, 6, 7, 8, 9, 10, 11, 12, 13, 14, 15, 16, 17, 18, 19, 20, 21], []), ([3, 4, 5, 6, 7, 8, 9, 10, 11, 12, 13, 14, 15, 16, 17, 18, 19, 20, 21, 22], []), ([], []), ([], []), ([25], []), ([24, 25, 26], []), ([24, 25, 26, 27], []), ([3, 4, 5, 6, 7, 8, 9, 10, 11, 12, 13, 14, 15, 16, 17, 18, 19, 20, 21, 22, 23, 24, 25, 26, 27, 28], []), ([0, 1], []), ([0, 1, 2, 3, 4, 5, 6, 7, 8, 9, 10, 11, 12, 13, 14, 15, 16, 17, 18, 19, 20, 21, 22, 23, 24, 25, 26, 27, 28, 29, 30], []), ([0, 1, 2, 3, 4, 5, 6, 7, 8, 9, 10, 11, 12, 13, 14, 15, 16, 17, 18, 19, 20, 21, 22, 23, 24, 25, 26, 27, 28, 29, 30, 31], [])] (by kernel_rfl) ?_
        simp -dsimp -implicitDefEqProofs only [go_sem, seval, gNj, cj, Int.natCast_nonneg, Int.toNat_natCast, Nat.zero_add, show (0 : Int) < 2 by decide, show (0 : Int) ≤ 0 by decide]
        refine QFn.use _ u1 (by simp -dsimp -implicitDefEqProofs only [go_sem, seval]) ?_
        simp -dsimp -implicitDefEqProofs only [go_sem, seval, gPj, gX1, f2, cj, cj1, Int.natCast_nonneg, Int.toNat_natCast, Nat.zero_add, show (0 : Int) < 2 by decide, show (0 : Int) ≤ 0 by decide]
        refine QFn.use _ u2 (by simp -dsimp -implicitDefEqProofs only [go_sem, seval]) ?_
        simp -dsimp -implicitDefEqProofs only [go_sem, seval]
        refine QFn.use _ u3 (by simp -dsimp -implicitDefEqProofs only [go_sem, seval]) ?_
        simp -dsimp -implicitDefEqProofs only [go_sem, seval, gQj, f2, cj2, Int.natCast_nonneg, Int.toNat_natCast, Nat.zero_add]
        refine QFn.use _ u4 (by simp -dsimp -implicitDefEqProofs only [go_sem, seval]) ?_
        have hs := set_1 X1 j (xE f Rw.r k j)
        simp -dsimp -implicitDefEqProofs (maxSteps := 1000000) only [go_sem, ↓reduceIte, Nat.reduceAdd, Nat.reduceSub, Nat.reduceMul, Nat.reduceLT, Nat.reduceLeDiff, Nat.reduceEqDiff, Nat.reduceBEq, Nat.reduceBNe, Int.reduceToNat, Int.reduceLT, Int.reduceLE, Int.reduceNeg, reduceCtorEq, Int.reduceEq, Int.reduceNe, gX, cj, Int.natCast_nonneg, Int.toNat_natCast, Nat.zero_add, show (0 : Int) < 2 by decide, show (0 : Int) ≤ 0 by decide]
        simp only [hs]
        refine ⟨⟨(1, _), Nat.le_of_ble_eq_true rfl, xi_1 jk hX1'⟩, by show 2 - 1 < 2 - 0; decide, Le.tl (Ls := []) (y := none) [] (by simp -dsimp -implicitDefEqProofs (maxSteps := 1000000) only [go_sem, ↓reduceIte, Nat.reduceAdd, Nat.reduceSub, Nat.reduceMul, Nat.reduceLT, Nat.reduceLeDiff, Nat.reduceEqDiff, Nat.reduceBEq, Nat.reduceBNe, Int.reduceToNat, Int.reduceLT, Int.reduceLE, Int.reduceNeg, reduceCtorEq, Int.reduceEq, Int.reduceNe, show wr (0 + 1) = 1 by decide]) ?_ (by simp) (by simp [sg]) trivial⟩
        simp -dsimp -implicitDefEqProofs only [go_sem, seval]
        exact ⟨renL_cl rfl (clB1 _), renL_cl rfl ((clBL _).2 trivial), renL_cl rfl ((clP2L _).2 trivial), renL_cl rfl ((clBL _).2 trivial), renL_cl rfl ((clP2L _).2 trivial)⟩
      | 1, _ =>
        have u1 := times69 (nE f Rw.s j) (qE f k) (bd_sz (hB.ns j jk) (by omega)) (bd_sz bqk (by omega))
        have u2 := times69 (pE f j) (xE f Rw.s k (j + 1)) (bd_sz bpj (by omega)) (bd_sz (hB.xs (j + 1) (by omega)) (by omega))
        have u3 := minus67 (nE f Rw.s j * qE f k) (pE f j * xE f Rw.s k (j + 1)) (bd_sz (bd_mul (hB.ns j jk) bqk) (by omega)) (bd_sz (bd_mul bpj (hB.xs (j + 1) (by omega))) (by omega))
        have u4 := floor81 (nE f Rw.s j * qE f k - pE f j * xE f Rw.s k (j + 1)) (qE f (j + 1)) (hB.pos (j + 1) (by omega)) (bd_sz (bd_sub (bd_mul (hB.ns j jk) bqk) (bd_mul bpj (hB.xs (j + 1) (by omega)))) (by omega)) (bd_sz bqj (by omega))
        rw [← xE_step f Rw.s (show j + 1 < k by omega)] at u4
        simp -dsimp -implicitDefEqProofs only [go_sem, seval]
        refine AtCode.draw 32 [([], []), ([], []), ([], []), ([], []), ([], []), ([], []), ([3, 4], []), ([3, 4, 5, 6], []), ([3, 4, 5, 6, 7], []), ([], []), ([3, 4, 5, 6, 7, 8, 9], []), ([], []), ([], []), ([11, 12], []), ([11, 12, 13], []), ([], []), ([], []), ([16], []), ([], []), ([15, 16, 17], []), ([15, 16, 17, 18, 19], []), ([15, 16, 17, 18, 19, 20], []), ([3, 4, 5, 6, 7, 8, 9, 10, 11, 12, 13, 14, 15, 16, 17, 18, 19, 20, 21], []), ([3, 4, 5, 6, 7, 8, 9, 10, 11, 12, 13, 14, 15, 16, 17, 18, 19, 20, 21, 22], []), ([], []), ([], []), ([25], []), ([24, 25, 26], []), ([24, 25, 26, 27], []), ([3, 4, 5, 6, 7, 8, 9, 10, 11, 12, 13, 14, 15, 16, 17, 18, 19, 20, 21, 22, 23, 24, 25, 26, 27, 28], []), ([0, 1], []), ([0, 1, 2, 3, 4, 5, 6, 7, 8, 9, 10, 11, 12, 13, 14, 15, 16, 17, 18, 19, 20, 21, 22, 23, 24, 25, 26, 27, 28, 29, 30], []), ([0, 1, 2, 3, 4, 5, 6, 7, 8, 9, 10, 11, 12, 13, 14, 15, 16, 17, 18, 19, 20, 21, 22, 23, 24, 25, 26, 27, 28, 29, 30, 31], [])] (by kernel_rfl) ?_
        simp -dsimp -implicitDefEqProofs only [go_sem, seval, gNj, cj, Int.natCast_nonneg, Int.toNat_natCast, Nat.zero_add, show (1 : Int) < 2 by decide, show (0 : Int) ≤ 1 by decide]
        refine QFn.use _ u1 (by simp -dsimp -implicitDefEqProofs only [go_sem, seval]) ?_
        simp -dsimp -implicitDefEqProofs only [go_sem, seval, gPj, gX1, f2, cj, cj1, Int.natCast_nonneg, Int.toNat_natCast, Nat.zero_add, show (1 : Int) < 2 by decide, show (0 : Int) ≤ 1 by decide]
        refine QFn.use _ u2 (by simp -dsimp -implicitDefEqProofs only [go_sem, seval]) ?_
        simp -dsimp -implicitDefEqProofs only [go_sem, seval]
        refine QFn.use _ u3 (by simp -dsimp -implicitDefEqProofs only [go_sem, seval]) ?_
        simp -dsimp -implicitDefEqProofs only [go_sem, seval, gQj, f2, cj2, Int.natCast_nonneg, Int.toNat_natCast, Nat.zero_add]
        refine QFn.use _ u4 (by simp -dsimp -implicitDefEqProofs only [go_sem, seval]) ?_
        have hs := set_2 X1 j (xE f Rw.s k j)
        simp -dsimp -implicitDefEqProofs (maxSteps := 1000000) only [go_sem, ↓reduceIte, Nat.reduceAdd, Nat.reduceSub, Nat.reduceMul, Nat.reduceLT, Nat.reduceLeDiff, Nat.reduceEqDiff, Nat.reduceBEq, Nat.reduceBNe, Int.reduceToNat, Int.reduceLT, Int.reduceLE, Int.reduceNeg, reduceCtorEq, Int.reduceEq, Int.reduceNe, gX, cj, Int.natCast_nonneg, Int.toNat_natCast, Nat.zero_add, show (1 : Int) < 2 by decide, show (0 : Int) ≤ 1 by decide]
        simp only [hs]
        refine ⟨⟨(2, _), Nat.le_of_ble_eq_true rfl, xi_2 jk hX1'⟩, by show 2 - 2 < 2 - 1; decide, Le.tl (Ls := []) (y := none) [] (by simp -dsimp -implicitDefEqProofs (maxSteps := 1000000) only [go_sem, ↓reduceIte, Nat.reduceAdd, Nat.reduceSub, Nat.reduceMul, Nat.reduceLT, Nat.reduceLeDiff, Nat.reduceEqDiff, Nat.reduceBEq, Nat.reduceBNe, Int.reduceToNat, Int.reduceLT, Int.reduceLE, Int.reduceNeg, reduceCtorEq, Int.reduceEq, Int.reduceNe, show wr (1 + 1) = 2 by decide]) ?_ (by simp) (by simp [sg]) trivial⟩
        simp -dsimp -implicitDefEqProofs only [go_sem, seval]
        exact ⟨renL_cl rfl (clB1 _), renL_cl rfl ((clBL _).2 trivial), renL_cl rfl ((clP2L _).2 trivial), renL_cl rfl ((clBL _).2 trivial), renL_cl rfl ((clP2L _).2 trivial)⟩
      | 2, _ =>
        simp -dsimp -implicitDefEqProofs only [go_sem, seval]
        refine ⟨⟨(j, X1), by show j + 1 ≤ k; omega, xl_step jk hX hX1'⟩, by show j < j + 1; omega, Le.tl (Ls := []) (y := none) [] (by simp -dsimp -implicitDefEqProofs only [go_sem, seval, f3]) ?_ (by simp) (by simp [sg]) trivial⟩
        simp -dsimp -implicitDefEqProofs only [go_sem, seval]
        exact ⟨renL_cl rfl (clB1 _), renL_cl rfl ((clBL _).2 trivial), renL_cl rfl ((clP2L _).2 trivial), renL_cl rfl ((clBL _).2 trivial), renL_cl rfl ((clP2L _).2 trivial)⟩
    · have hc0 : c = 0 := by omega
      subst hc0
      have hXx := xl_end hX
      refine AtCode.draw 3 [([], []), ([], []), ([0], []), ([0, 1, 2], [])] (by kernel_rfl) ?_
      simp -dsimp -implicitDefEqProofs only [go_sem, seval]
      have tX : takeA 0 k (X.map P2C) = X.map P2C := by rw [takeA_eq, List.drop_zero, List.take_of_length_le (by rw [List.length_map, hX.1]; exact Nat.le_refl _)]
      rw [if_pos (by rw [List.length_map, hX.1]; omega), tX, hXx]
end

section
set_option maxRecDepth 20000
attribute [local go_sem] eqk27' clKnsL clArsL clU32 clNat clBigT clBigC clI clRwC clP2C clP2L clBL clRwL
def turnF (g : Nat → Ar) (m j : Nat) : Int := if 1 ≤ j ∧ j < m then redW ((g j).dir - (g (j - 1)).dir) else 0
def rowF (g : Nat → Ar) (m i : Nat) : Rw :=
  if i = 0 then (if (g 0).a.op = 1 then ⟨0, 1, 0, redW ((g 0).a.v - (g 0).dir), 0⟩
    else ⟨0, curF (g 0).a.v (g 0).a.t (g 0).b.t, curG (g 0).a.v (g 0).a.t (g 0).b.t, curG (g 0).a.v (g 0).a.t (g 0).b.t * -(turnF g m 1), 0⟩)
  else if i < m then innW (g (i - 1)) (g i) (turnF g m i) (turnF g m (i + 1))
  else if i = m then (if (g (m - 1)).b.op = 1 then ⟨0, 1, 0, -(redW ((g (m - 1)).dir - (g (m - 1)).b.v)), 0⟩
    else ⟨curG (g (m - 1)).b.v (g (m - 1)).b.t (g (m - 1)).a.t, curF (g (m - 1)).b.v (g (m - 1)).b.t (g (m - 1)).a.t, 0, 0, 0⟩)
  else zRw
def rndW (a b : Int) : Int := wr ((a * 2 + b) / (b * 2))
def theF (g : Nat → Ar) (m k : Nat) : Int := rndW (xE (rowF g m) Rw.r (m + 1) k) (qE (rowF g m) (m + 1))
def uvA (r : Ar) (u v : Int) : Ar := ⟨r.fx, r.fy, r.tx, r.ty, r.a, r.b, r.far, r.dir, u, v, r.st⟩
def openW (mid : List Ar) : List Ar := (List.range mid.length).map fun k => uvA (mid.getD k zA) (theF (fun i => mid.getD i zA) mid.length k) (wr (-(turnF (fun i => mid.getD i zA) mid.length (k + 1)) - theF (fun i => mid.getD i zA) mid.length (k + 1)))
structure okAr (r : Ar) : Prop where
  at_ : sm r.a.t
  bt : sm r.b.t
  av : sm r.a.v
  bv : sm r.b.v
  far : sm r.far
  dir : sm r.dir
theorem turn_b (g : Nat → Ar) (m j : Nat) : -188743680 ≤ turnF g m j ∧ turnF g m j ≤ 188743680 := by
  unfold turnF
  split
  · have := red_b ((g j).dir - (g (j - 1)).dir); omega
  · omega
theorem getAt {pre mid post : List Ar} {k : Nat} (h : k < mid.length) : ((pre ++ mid ++ post).map ArC)[pre.length + k]? = some (ArC (mid.getD k zA)) := by
  rw [List.getElem?_map, List.append_assoc, List.getElem?_append_right (by omega), Nat.add_sub_cancel_left, List.getElem?_append_left h]
  simp [List.getD, h]
def TrI (g : Nat → Ar) (m i : Nat) (T : List Int) : Prop := T.length = m + 1 ∧ (∀ j, j < i → T.getD j 0 = turnF g m j) ∧ ∀ j, i ≤ j → T.getD j 0 = 0
theorem tr_0 (g : Nat → Ar) (m : Nat) : TrI g m 1 (List.replicate (m + 1) 0) := by
  refine ⟨by simp, fun j hj => ?_, fun j _ => getD_rep _ _⟩
  have : j = 0 := by omega
  subst this
  rw [getD_rep]; simp [turnF]
theorem tr_step {g : Nat → Ar} {m i : Nat} {T : List Int} (h : TrI g m i T) (h1 : 1 ≤ i) (h2 : i < m) : TrI g m (i + 1) (T.set i (redW ((g i).dir - (g (i - 1)).dir))) := by
  obtain ⟨a, b, c⟩ := h
  refine ⟨by rw [List.length_set, a], fun j hj => ?_, fun j hj => ?_⟩
  · by_cases e : i = j
    · subst e; rw [getD_setG (by omega), if_pos rfl]; unfold turnF; rw [if_pos ⟨h1, h2⟩]
    · rw [getD_setG (by omega), if_neg e]; exact b j (by omega)
  · by_cases hl : j < T.length
    · rw [getD_setG hl, if_neg (by omega)]; exact c j (by omega)
    · exact getD_outG (by rw [List.length_set]; omega)
theorem tr_end {g : Nat → Ar} {m i : Nat} {T : List Int} (h : TrI g m i T) (hi : m ≤ i) (j : Nat) (hj : j ≤ m) : T.getD j 0 = turnF g m j := by
  obtain ⟨a, b, c⟩ := h
  by_cases e : j < i
  · exact b j e
  · rw [c j (by omega)]; unfold turnF; rw [if_neg (by omega)]
def RwI (g : Nat → Ar) (m i : Nat) (R : List Rw) : Prop := R.length = m + 1 ∧ ∀ j, R.getD j zRw = if 1 ≤ j ∧ j < i then rowF g m j else zRw
theorem getI1 {D : List Int} {i : Nat} (h : i < D.length) : (D.map fun n => [I n])[i]? = some [I (D.getD i 0)] := getIi h
theorem setI1 (D : List Int) (i : Nat) (d : Int) : (D.map fun n => [I n]).set i [I d] = (D.set i d).map fun n => [I n] := by rw [List.map_set]
theorem curG_b {w ta tb : Int} (hw : sm w) (ha : sm ta) (hb : sm tb) : bd 13 (curG w ta tb) := by
  unfold sm at hw ha hb
  have iw : in63 w := ⟨by omega, by omega⟩
  have ia : in63 ta := ⟨by omega, by omega⟩
  have ib : in63 tb := ⟨by omega, by omega⟩
  have iu : in63 65536 := ⟨by omega, by omega⟩
  have ic : in63 (3 * ta - 65536) := ⟨by omega, by omega⟩
  exact bd_mono (bd_add (prod5 iw ic ib ib ib).2 (prod5 ia ia ia iu iu).2) (by decide)
theorem AtLoop.via {rec : List It → (AState → Prop) → AState → Prop} {b : Code} {k : List It} {Q : AState → Prop} [Tg k] [Tg Q] {s s' : AState} (hle : Le s s') (h : AtLoop rec b k Q s') : AtLoop rec b k Q s := by
  obtain ⟨ι, inv, μ, ⟨i, hi⟩, h2⟩ := h
  exact ⟨ι, inv, μ, ⟨i, hle.trans hi⟩, h2⟩
theorem three {rec : List It → (AState → Prop) → AState → Prop} {b : Code} {k : List It} {Q : AState → Prop} [Tg k] [Tg Q] {c1 c2 c3 F : Prop} {s1 s2 s3 X : AState} (hF : c1 → c2 → c3 → F) (h1 : Le s1 X) (h2 : Le s2 X) (h3 : Le s3 X) (hX : AtLoop rec b k Q X) :
    (c1 → (c2 → (c3 → F) ∧ (¬ c3 → AtLoop rec b k Q s1)) ∧ (¬ c2 → AtLoop rec b k Q s2)) ∧ (¬ c1 → AtLoop rec b k Q s3) :=
  ⟨fun a => ⟨fun b => ⟨fun c => hF a b c, fun _ => AtLoop.via h1 hX⟩, fun _ => AtLoop.via h2 hX⟩, fun _ => AtLoop.via h3 hX⟩
theorem repR (n : Nat) : SubL (List.replicate n [Bo false, nilS, Bo false, nilS, Bo false, nilS, Bo false, nilS, Bo false, nilS]) ((List.replicate n zRw).map RwC) := by
  rw [List.map_replicate]
  exact SubL.rep (.cons (.refl _) (.cons (Sub.nil 1) (.cons (.refl _) (.cons (Sub.nil 1) (.cons (.refl _) (.cons (Sub.nil 1) (.cons (.refl _) (.cons (Sub.nil 1) (.cons (.refl _) (.cons (Sub.nil 1) .nil)))))))))) n
theorem setR (R : List Rw) (i : Nat) (x : Rw) : (R.map RwC).set i (RwC x) = (R.set i x).map RwC := by rw [List.map_set]
theorem rw_0 (g : Nat → Ar) (m : Nat) : RwI g m 1 (List.replicate (m + 1) zRw) := by
  refine ⟨by simp, fun j => ?_⟩
  rw [if_neg (by omega)]
  by_cases hj : j < m + 1
  · simp [List.getD, hj]
  · exact getD_outG (by simp; omega)
theorem rw_step {g : Nat → Ar} {m i : Nat} {R : List Rw} (h : RwI g m i R) (h1 : 1 ≤ i) (h2 : i < m) : RwI g m (i + 1) (R.set i (rowF g m i)) := by
  refine ⟨by rw [List.length_set, h.1], fun j => ?_⟩
  by_cases hl : j < R.length
  · rw [getD_setG hl]
    by_cases e : i = j
    · subst e; rw [if_pos rfl, if_pos (by omega)]
    · rw [if_neg e, h.2]
      by_cases q : 1 ≤ j ∧ j < i
      · rw [if_pos q, if_pos (by omega)]
      · rw [if_neg q, if_neg (by omega)]
  · rw [getD_outG (by rw [List.length_set]; omega), if_neg (by have := h.1; omega)]
def midI (g : Nat → Ar) (m i : Nat) : List Ar := (List.range m).map fun k => if k < i then uvA (g k) (theF g m k) (wr (-(turnF g m (k + 1)) - theF g m (k + 1))) else g k
theorem mid_0 (g : Nat → Ar) (m : Nat) : midI g m 0 = (List.range m).map g := by
  unfold midI
  exact List.map_congr_left fun k hk => if_neg (Nat.not_lt_zero _)
theorem mid_len (g : Nat → Ar) (m i : Nat) : (midI g m i).length = m := by simp [midI]
theorem mid_get (g : Nat → Ar) {m i k : Nat} (h : k < m) : (midI g m i)[k]? = some (if k < i then uvA (g k) (theF g m k) (wr (-(turnF g m (k + 1)) - theF g m (k + 1))) else g k) := by
  unfold midI
  rw [List.getElem?_map, List.getElem?_range h]; rfl
theorem getMid (pre post : List Ar) {g : Nat → Ar} {m i : Nat} (h : i < m) : ((pre ++ midI g m i ++ post).map ArC)[pre.length + i]? = some (ArC (g i)) := by
  rw [List.getElem?_map, List.append_assoc, List.getElem?_append_right (by omega), Nat.add_sub_cancel_left, List.getElem?_append_left (by rw [mid_len]; exact h), mid_get g h, if_neg (Nat.lt_irrefl _)]; rfl
theorem mid_set (g : Nat → Ar) {m i : Nat} (h : i < m) : (midI g m i).set i (uvA (g i) (theF g m i) (wr (-(turnF g m (i + 1)) - theF g m (i + 1)))) = midI g m (i + 1) := by
  refine List.ext_getElem? fun j => ?_
  by_cases hj : j < m
  · rw [List.getElem?_set, mid_get g hj, mid_get g hj, mid_len]
    by_cases e : i = j
    · subst e; rw [if_pos rfl, if_pos h, if_pos (by omega)]
    · rw [if_neg e]
      by_cases q : j < i
      · rw [if_pos q, if_pos (by omega)]
      · rw [if_neg q, if_neg (by omega)]
  · rw [List.getElem?_eq_none (by rw [List.length_set, mid_len]; omega), List.getElem?_eq_none (by rw [mid_len]; omega)]
theorem setMid (pre post : List Ar) {g : Nat → Ar} {m i : Nat} (h : i < m) : ((pre ++ midI g m i ++ post).map ArC).set (pre.length + i) (ArC (uvA (g i) (theF g m i) (wr (-(turnF g m (i + 1)) - theF g m (i + 1))))) = (pre ++ midI g m (i + 1) ++ post).map ArC := by
  rw [← List.map_set, List.append_assoc, List.set_append_right _ _ (by omega), Nat.add_sub_cancel_left, List.set_append_left _ _ (by rw [mid_len]; exact h), mid_set g h, List.append_assoc]
def ThI (g : Nat → Ar) (m i : Nat) (S : List Int) : Prop := S.length = m + 1 ∧ ∀ j, j < i → S.getD j 0 = theF g m j
theorem th_step {g : Nat → Ar} {m i : Nat} {S : List Int} (hi : i < m + 1) (h : ThI g m i S) : ThI g m (i + 1) (S.set i (theF g m i)) := by
  refine ⟨by rw [List.length_set, h.1], fun j hj => ?_⟩
  rw [getD_setG (by rw [h.1]; omega)]
  by_cases e : i = j
  · subst e; rw [if_pos rfl]
  · rw [if_neg e]; exact h.2 j (by omega)
theorem getXs {f : Nat → Rw} {n k : Nat} (h : k < n) : ((xs f n).map P2C)[k]? = some (P2C (xE f Rw.r n k, xE f Rw.s n k)) := by
  unfold xs
  rw [List.getElem?_map, List.getElem?_map, List.getElem?_range h]; rfl
theorem bd_div {k : Nat} {a b : Int} (h : bd k a) (hb : 0 < b) : bd k (a / b) := by
  unfold bd at *
  have : ((a / b).natAbs : Int) ≤ (a.natAbs : Int) := by
    rcases Int.le_total 0 a with q | q
    · have h1 := Int.ediv_nonneg q (by omega : 0 ≤ b)
      have h2 := Int.ediv_le_self b q
      omega
    · have h1 : a ≤ a / b := by
        have := Int.ediv_mul_le a (show b ≠ 0 by omega)
        have h3 := Int.emod_add_mul_ediv a b
        have h4 := Int.emod_lt_of_pos a hb
        apply Int.le_ediv_of_mul_le hb
        have : a * b ≤ a * 1 := Int.mul_le_mul_of_nonpos_left q (by omega)
        omega
      have h2 : a / b < 1 := Int.ediv_lt_of_lt_mul hb (by omega)
      omega
  omega
theorem rnd71 {a b : Int} {K : Nat} (hb : 0 < b) (h1 : bd K a) (h2 : bd K b) (hK : 2 * K + 4 < 536870912) : PFun Try.prog 71 [BigA a, BigA b] (I (rndW a b)) := by
  have b2 : bd 1 2 := by unfold bd; decide
  have c1 := bd_mul h1 b2
  have c2 := bd_mul h2 b2
  have c3 := bd_add c1 (bd_mono h2 (show K ≤ K + 1 by omega))
  exact rounded71 a b hb (bd_sz h1 (by omega)) (bd_sz h2 (by omega)) (bd_sz c1 (by omega)) (bd_sz c3 (by omega)) (bd_sz c2 (by omega)) (bd_sz (bd_div c3 (by omega)) (by omega))
theorem rw_end {g : Nat → Ar} {m : Nat} {R : List Rw} (h : RwI g m m R) (hm : 1 ≤ m) (i : Nat) : ((R.set 0 (rowF g m 0)).set m (rowF g m m)).getD i zRw = rowF g m i := by
  have hl := h.1
  by_cases e : i < m + 1
  · rw [getD_setG (by rw [List.length_set]; omega)]
    by_cases e1 : m = i
    · subst e1; rw [if_pos rfl]
    · rw [if_neg e1, getD_setG (by omega)]
      by_cases e2 : 0 = i
      · subst e2; rw [if_pos rfl]
      · rw [if_neg e2, h.2, if_pos (by omega)]
  · rw [getD_outG (by rw [List.length_set, List.length_set]; omega)]
    unfold rowF
    rw [if_neg (by omega), if_neg (by omega), if_neg (by omega)]
set_option maxHeartbeats 8000000 in
theorem open48 (mid : List Ar) (K : Nat) (hm : 1 ≤ mid.length) (hno : ¬ (mid.length = 1 ∧ (mid.getD 0 zA).a.op = 2 ∧ (mid.getD 0 zA).b.op = 2)) (hok : ∀ k, k < mid.length → okAr (mid.getD k zA)) (hB : ElB (rowF (fun i => mid.getD i zA) mid.length) (mid.length + 1) K) : OpenC mid (openW mid) := by
  refine ⟨by simp [openW], fun pre post hl => ?_⟩
  obtain ⟨p, hp⟩ : ∃ p, p = pre.length := ⟨_, rfl⟩
  obtain ⟨m, hmm⟩ : ∃ m, m = mid.length := ⟨_, rfl⟩
  obtain ⟨g, hg⟩ : ∃ g : Nat → Ar, g = fun i => mid.getD i zA := ⟨_, rfl⟩
  have hgi : ∀ k, mid.getD k zA = g k := fun k => by rw [hg]
  have hA : ∀ k, k < m → ((pre ++ mid ++ post).map ArC)[p + k]? = some (ArC (g k)) := fun k hk => by rw [hp, ← hgi]; exact getAt (by omega)
  rw [← hg, ← hmm] at hB
  rw [← hmm] at hl hm hno hok
  simp only [hgi] at hok hno
  rw [← hp, ← hmm]
  obtain ⟨LA, hLA⟩ : ∃ LA, LA = (pre ++ mid ++ post).map ArC := ⟨_, rfl⟩
  have hlen : LA.length = p + m + post.length := by rw [hLA]; simp; omega
  rw [← hLA] at hA ⊢
  have clA : ∀ c ∈ LA, ∀ s ∈ c, Cl s := by rw [hLA]; exact (clArsL _).2 trivial
  have g0 := hA 0 (by omega)
  rw [Nat.add_zero] at g0
  have gl := hA (m - 1) (by omega)
  have w0 : wr (((m : Nat) : Int) - 1) = ((m - 1 : Nat) : Int) := by rw [wr_in] <;> omega
  have w1 : wr (((m : Nat) : Int) + 1) = ((m + 1 : Nat) : Int) := by rw [wr_in] <;> omega
  have c1 : ((m - 1 : Nat) : Int) < ((m : Nat) : Int) := by omega
  have c2 : (0 : Int) < ((m : Nat) : Int) := by omega
  have c3 : ((m + 1 : Nat) : Int) ≤ 274877906944 := by omega
  refine MFun.intro2 400 [] mixed Try.func48 (by kernel_rfl) rfl (by rw [Try.results48]; rfl) (Nat.le_of_ble_eq_true rfl) ?_; rw [Try.ntmps48]
  simp -dsimp -implicitDefEqProofs only [go_sem, seval]
  refine AtCode.draw 8 [([], []), ([0], []), ([], []), ([], []), ([3], []), ([2, 3, 4], []), ([0, 1], []), ([0, 1, 2, 3, 4, 5, 6], [])] (by kernel_rfl) ?_
  simp -dsimp -implicitDefEqProofs only [go_sem, seval, g0, w0, w1, c1, c2, c3, Int.natCast_nonneg, Int.toNat_natCast, Nat.add_zero, Int.le_refl]
  refine three (X := ⟨250, tl [(0, .sl 0 p m), (2, I (m : Nat)), (3, .ptr 0 p 0), (4, .ptr 0 (p + (m - 1)) 0), (5, .sl 1 0 (m + 1)), (6, I 1)], [(0, ⟨19, LA⟩), (1, ⟨1, (List.replicate (m + 1) 0).map fun n => [I n]⟩)], 2, ⟨[tl [(0, .sl 0 p m)]], some (.mp none)⟩⟩) ?_ ?_ ?_ ?_ ?_
  · exact fun a b c => absurd ⟨by omega, b, c⟩ hno
  · skip
    refine Le.tl (Ls := [[(0, .sl 0 p m)]]) [(1, 9)] (by simp -dsimp -implicitDefEqProofs only [go_sem, seval]) ?_ (by simp) (by simp [sg]) ⟨by simp -dsimp -implicitDefEqProofs only [go_sem, seval], trivial⟩
    simp -dsimp -implicitDefEqProofs only [go_sem, seval]
    exact ⟨renL_cl rfl clA, renL_cl2 (by rw [List.map_replicate]) ((clI _).2 trivial)⟩
  · skip
    refine Le.tl (Ls := [[(0, .sl 0 p m)]]) [(1, 9)] (by simp -dsimp -implicitDefEqProofs only [go_sem, seval]) ?_ (by simp) (by simp [sg]) ⟨by simp -dsimp -implicitDefEqProofs only [go_sem, seval], trivial⟩
    simp -dsimp -implicitDefEqProofs only [go_sem, seval]
    exact ⟨renL_cl rfl clA, renL_cl2 (by rw [List.map_replicate]) ((clI _).2 trivial)⟩
  · skip
    refine Le.tl (Ls := [[(0, .sl 0 p m)]]) [(1, 9)] (by simp -dsimp -implicitDefEqProofs only [go_sem, seval]) ?_ (by simp) (by simp [sg]) ⟨by simp -dsimp -implicitDefEqProofs only [go_sem, seval], trivial⟩
    simp -dsimp -implicitDefEqProofs only [go_sem, seval]
    exact ⟨renL_cl rfl clA, renL_cl2 (by rw [List.map_replicate]) ((clI _).2 trivial)⟩
  refine ⟨{q : Nat × List Int // (1 ≤ q.1 ∧ q.1 ≤ m) ∧ TrI g m q.1 q.2}, fun q => ⟨250, tl [(0, .sl 0 p m), (2, I (m : Nat)), (3, .ptr 0 p 0), (4, .ptr 0 (p + (m - 1)) 0), (5, .sl 1 0 (m + 1)), (6, I q.1.1)], [(0, ⟨19, LA⟩), (1, ⟨1, q.1.2.map fun n => [I n]⟩)], 2, ⟨[tl [(0, .sl 0 p m)]], some (.mp none)⟩⟩, fun q => m - q.1.1,
    ⟨⟨(1, List.replicate (m + 1) 0), ⟨Nat.le_refl _, hm⟩, tr_0 g m⟩, Le.tl (Ls := [[(0, .sl 0 p m)]]) [] (by simp -dsimp -implicitDefEqProofs only [go_sem, seval]) ?_ (by simp) (by simp [sg]) ⟨by simp -dsimp -implicitDefEqProofs only [go_sem, seval], trivial⟩⟩, fun q => ?_⟩
  · simp -dsimp -implicitDefEqProofs only [go_sem, seval]
    exact ⟨renL_cl rfl clA, renL_cl rfl ((clI _).2 trivial)⟩
  obtain ⟨⟨i, T⟩, ⟨hi1, hi2⟩, hT⟩ := q
  simp only at hi1 hi2 hT
  simp -dsimp -implicitDefEqProofs only [go_sem, seval]
  refine ⟨fun h9 => ?_, fun h9 => ?_⟩
  · have him : i < m := by omega
    have e1 : wr (((i : Nat) : Int) - 1) = ((i - 1 : Nat) : Int) := by rw [wr_in] <;> omega
    have e2 : wr (((i : Nat) : Int) + 1) = ((i + 1 : Nat) : Int) := by rw [wr_in] <;> omega
    have gi := hA i him
    have gi1 := hA (i - 1) (by omega)
    have ci : ((i : Nat) : Int) < ((m : Nat) : Int) := by omega
    have ci1 : ((i - 1 : Nat) : Int) < ((m : Nat) : Int) := by omega
    have ci2 : ((i : Nat) : Int) < ((m + 1 : Nat) : Int) := by omega
    have d1 := (hok i him).dir
    have d2 := (hok (i - 1) (by omega)).dir
    unfold sm at d1 d2
    have wd : wr ((g i).dir - (g (i - 1)).dir) = (g i).dir - (g (i - 1)).dir := wr_in (by omega) (by omega)
    have hr := reduced64 ((g i).dir - (g (i - 1)).dir)
    have gT := getI1 (D := T) (i := i) (by rw [hT.1]; omega)
    refine AtCode.draw 16 [([], []), ([], []), ([], []), ([], []), ([2, 3], []), ([2, 3, 4], []), ([2, 3, 4, 5], []), ([], []), ([], []), ([8], []), ([7, 8, 9], []), ([7, 8, 9, 10], []), ([7, 8, 9, 10, 11], []), ([2, 3, 4, 5, 6, 7, 8, 9, 10, 11, 12], []), ([2, 3, 4, 5, 6, 7, 8, 9, 10, 11, 12, 13], []), ([0, 1, 2, 3, 4, 5, 6, 7, 8, 9, 10, 11, 12, 13, 14], []), ([0, 1, 2, 3, 4, 5, 6, 7, 8, 9, 10, 11, 12, 13, 14, 15], [])] (by kernel_rfl) ?_
    simp -dsimp -implicitDefEqProofs only [go_sem, seval, gi, gi1, e1, ci, ci1, wd, Int.natCast_nonneg, Int.toNat_natCast]
    refine QFn.use _ hr (by simp -dsimp -implicitDefEqProofs only [go_sem, seval]) ?_
    simp -dsimp -implicitDefEqProofs only [go_sem, seval, gT, ci2, e2, Int.natCast_nonneg, Int.toNat_natCast, Nat.zero_add, setI1]
    refine ⟨⟨(i + 1, _), ⟨by show 1 ≤ i + 1; omega, by show i + 1 ≤ m; omega⟩, tr_step hT hi1 him⟩, by show m - (i + 1) < m - i; omega, Le.tl (Ls := [[(0, .sl 0 p m)]]) [] (by simp -dsimp -implicitDefEqProofs only [go_sem, seval, e2]) ?_ (by simp) (by simp [sg]) ⟨by simp -dsimp -implicitDefEqProofs only [go_sem, seval], trivial⟩⟩
    simp -dsimp -implicitDefEqProofs only [go_sem, seval]
    exact ⟨renL_cl rfl clA, renL_cl rfl ((clI _).2 trivial)⟩
  have hTe := tr_end hT (show m ≤ i by omega)
  have hTl := hT.1
  clear hT
  simp -dsimp -implicitDefEqProofs only [go_sem, seval, w1, c3, Int.natCast_nonneg, Int.toNat_natCast, Int.le_refl]
  refine ⟨{q : Nat × List Rw // (1 ≤ q.1 ∧ q.1 ≤ m) ∧ RwI g m q.1 q.2}, fun q => ⟨250, tl [(0, .sl 0 p m), (2, I (m : Nat)), (3, .ptr 0 p 0), (4, .ptr 0 (p + (m - 1)) 0), (5, .sl 1 0 (m + 1)), (7, .sl 2 0 (m + 1)), (8, I q.1.1)], [(0, ⟨19, LA⟩), (1, ⟨1, T.map fun n => [I n]⟩), (2, ⟨10, q.1.2.map RwC⟩)], 3, ⟨[tl [(0, .sl 0 p m)]], some (.mp none)⟩⟩, fun q => m - q.1.1,
    ⟨⟨(1, List.replicate (m + 1) zRw), ⟨Nat.le_refl _, hm⟩, rw_0 g m⟩, Le.trans (Le.hsub 2 (b := ⟨10, _⟩) rfl (repR (m + 1))) (Le.tl (Ls := [[(0, .sl 0 p m)]]) [] (by simp -dsimp -implicitDefEqProofs only [go_sem, seval]) ?_ (by simp) (by simp [sg]) ⟨by simp -dsimp -implicitDefEqProofs only [go_sem, seval], trivial⟩)⟩, fun q => ?_⟩
  · simp -dsimp -implicitDefEqProofs only [go_sem, seval]
    exact ⟨renL_cl rfl clA, renL_cl rfl ((clI _).2 trivial), renL_cl rfl ((clRwL _).2 trivial)⟩
  obtain ⟨⟨i, R⟩, ⟨hi1, hi2⟩, hR⟩ := q
  simp only at hi1 hi2 hR
  simp -dsimp -implicitDefEqProofs only [go_sem, seval]
  refine ⟨fun h9 => ?_, fun h9 => ?_⟩
  · have him : i < m := by omega
    have e1 : wr (((i : Nat) : Int) - 1) = ((i - 1 : Nat) : Int) := by rw [wr_in] <;> omega
    have e2 : wr (((i : Nat) : Int) + 1) = ((i + 1 : Nat) : Int) := by rw [wr_in] <;> omega
    have gi := hA i him
    have gi1 := hA (i - 1) (by omega)
    have ci : ((i : Nat) : Int) < ((m : Nat) : Int) := by omega
    have ci1 : ((i - 1 : Nat) : Int) < ((m : Nat) : Int) := by omega
    have ci2 : ((i : Nat) : Int) < ((m + 1 : Nat) : Int) := by omega
    have ci3 : ((i + 1 : Nat) : Int) < ((m + 1 : Nat) : Int) := by omega
    have gT := getI1 (D := T) (i := i) (by omega)
    rw [hTe i (by omega)] at gT
    have gT1 := getI1 (D := T) (i := i + 1) (by omega)
    rw [hTe (i + 1) (by omega)] at gT1
    have b1 := turn_b g m i
    have b2 := turn_b g m (i + 1)
    have o1 := hok (i - 1) (by omega)
    have o2 := hok i him
    have hin := inner65 (g (i - 1)) (g i) (turnF g m i) (turnF g m (i + 1)) o1.at_ o1.bt o2.at_ o2.bt o1.far o2.far ⟨by omega, by omega⟩ ⟨by omega, by omega⟩
    have hrow : rowF g m i = innW (g (i - 1)) (g i) (turnF g m i) (turnF g m (i + 1)) := by unfold rowF; rw [if_neg (by omega), if_pos him]
    rw [← hrow] at hin
    have gR := getRw (D := R) (i := i) (by rw [hR.1]; omega)
    have hset := setR R i (rowF g m i)
    refine AtCode.draw 22 [([], []), ([], []), ([], []), ([], []), ([3], []), ([2, 3, 4], []), ([2, 3, 4, 5], []), ([], []), ([], []), ([7, 8], []), ([7, 8, 9], []), ([], []), ([], []), ([11, 12], []), ([11, 12, 13], []), ([], []), ([], []), ([16], []), ([15, 16, 17], []), ([15, 16, 17, 18], []), ([2, 3, 4, 5, 6, 7, 8, 9, 10, 11, 12, 13, 14, 15, 16, 17, 18, 19], []), ([0, 1, 2, 3, 4, 5, 6, 7, 8, 9, 10, 11, 12, 13, 14, 15, 16, 17, 18, 19, 20], []), ([0, 1, 2, 3, 4, 5, 6, 7, 8, 9, 10, 11, 12, 13, 14, 15, 16, 17, 18, 19, 20, 21], [])] (by kernel_rfl) ?_
    simp -dsimp -implicitDefEqProofs only [go_sem, seval, gi, gi1, gT, gT1, e1, e2, ci, ci1, ci2, ci3, Int.natCast_nonneg, Int.toNat_natCast, Nat.zero_add]
    refine QFn.use _ hin (by simp -dsimp -implicitDefEqProofs only [go_sem, seval]) ?_
    simp -dsimp -implicitDefEqProofs only [go_sem, seval, gR, ci2, e2, Int.natCast_nonneg, Int.toNat_natCast, Nat.zero_add]
    simp only [hset]
    refine ⟨⟨(i + 1, R.set i (rowF g m i)), ⟨by show 1 ≤ i + 1; omega, by show i + 1 ≤ m; omega⟩, rw_step hR hi1 him⟩, by show m - (i + 1) < m - i; omega, Le.tl (Ls := [[(0, .sl 0 p m)]]) [] (by simp -dsimp -implicitDefEqProofs only [go_sem, seval, e2]) ?_ (by simp) (by simp [sg]) ⟨by simp -dsimp -implicitDefEqProofs only [go_sem, seval], trivial⟩⟩
    simp -dsimp -implicitDefEqProofs only [go_sem, seval]
    exact ⟨renL_cl rfl clA, renL_cl rfl ((clI _).2 trivial), renL_cl rfl ((clRwL _).2 trivial)⟩
  have him : m = i := by omega
  subst him
  have hw1 := whole74 1 (by decide) (by decide)
  have hRl := hR.1
  have z0 : R.getD 0 zRw = zRw := by rw [hR.2, if_neg (by omega)]
  have zm : R.getD m zRw = zRw := by rw [hR.2, if_neg (by omega)]
  have gR0 := getRw (D := R) (i := 0) (by omega)
  have gRm := getRw (D := R) (i := m) (by omega)
  rw [z0] at gR0
  rw [zm] at gRm
  have gs0 : ∀ X, ((R.map RwC).set 0 X)[0]? = some X := fun X => by rw [List.getElem?_set_self (by rw [List.length_map]; omega)]
  have gsm : ∀ X, ((R.map RwC).set 0 X)[m]? = some (RwC zRw) := fun X => by rw [List.getElem?_set_ne (by omega), gRm]
  have gss : ∀ X Y, (((R.map RwC).set 0 X).set m Y)[m]? = some Y := fun X Y => by rw [List.getElem?_set_self (by rw [List.length_set, List.length_map]; omega)]
  have cm : ((m : Nat) : Int) < ((m + 1 : Nat) : Int) := by omega
  have c01 : (0 : Int) < ((m + 1 : Nat) : Int) := by omega
  have c11 : (1 : Int) < ((m + 1 : Nat) : Int) := by omega
  have o0 := hok 0 (by omega)
  have ol := hok (m - 1) (by omega)
  have gT1 := getI1 (D := T) (i := 1) (by omega)
  rw [hTe 1 (by omega)] at gT1
  have bt1 := turn_b g m 1
  have nt1 : wr (0 - turnF g m 1) = -(turnF g m 1) := by rw [wr_in (by omega) (by omega)]; omega
  obtain ⟨RR, hRR⟩ : ∃ RR, RR = (R.set 0 (rowF g m 0)).set m (rowF g m m) := ⟨_, rfl⟩
  have hRRl : RR.length = m + 1 := by rw [hRR, List.length_set, List.length_set, hRl]
  have hfun : (fun i => RR.getD i zRw) = rowF g m := by
    funext i
    rw [hRR]
    exact rw_end hR hm i
  have hRRm : RR.map RwC = ((R.map RwC).set 0 (RwC (rowF g m 0))).set m (RwC (rowF g m m)) := by rw [hRR, List.map_set, List.map_set]
  have hel := elim68 RR K (by rw [hfun, hRRl]; exact hB)
  rw [hfun, hRRl] at hel
  have tRR : takeA 0 (m + 1) (RR.map RwC) = RR.map RwC := by rw [takeA_eq, List.drop_zero, List.take_of_length_le (by rw [List.length_map]; omega)]
  have hmid : mid = (List.range m).map g := by
    refine List.ext_getElem? fun j => ?_
    by_cases hj : j < m
    · rw [List.getElem?_map, List.getElem?_range hj, Option.map_some, ← hgi]; simp [List.getD, show j < mid.length by omega]
    · rw [List.getElem?_eq_none (by omega), List.getElem?_eq_none (by simp; omega)]
  have hopen : openW mid = midI g m m := by
    unfold openW midI
    rw [← hmm, ← hg]
    refine List.map_congr_left fun k hk => ?_
    rw [if_pos (List.mem_range.1 hk), hgi]
  have hLA0 : LA = (pre ++ midI g m 0 ++ post).map ArC := by
    have e : midI g m 0 = mid := by rw [hmid]; exact mid_0 g m
    rw [hLA, e]
  rw [hopen]
  have hrd : ∀ j, j < m + 1 → PFun Try.prog 71 [BigA (xE (rowF g m) Rw.r (m + 1) j), BigA (qE (rowF g m) (m + 1))] (I (theF g m j)) := fun j hj => rnd71 (hB.pos _ (Nat.le_refl _)) (hB.xr j hj) (hB.q _ (Nat.le_refl _)) hB.K2
  have hrm1 : (g (m - 1)).b.op = 1 → rowF g m m = ⟨0, 1, 0, -(redW ((g (m - 1)).dir - (g (m - 1)).b.v)), 0⟩ := fun hb1 => by unfold rowF; rw [if_neg (by omega), if_neg (by omega), if_pos rfl, if_pos hb1]
  have hrm0 : ¬ (g (m - 1)).b.op = 1 → rowF g m m = ⟨curG (g (m - 1)).b.v (g (m - 1)).b.t (g (m - 1)).a.t, curF (g (m - 1)).b.v (g (m - 1)).b.t (g (m - 1)).a.t, 0, 0, 0⟩ := fun hb1 => by unfold rowF; rw [if_neg (by omega), if_neg (by omega), if_pos rfl, if_neg hb1]
  by_cases ha1 : (g 0).a.op = 1
  · have hrow0 : rowF g m 0 = ⟨0, 1, 0, redW ((g 0).a.v - (g 0).dir), 0⟩ := by unfold rowF; rw [if_pos rfl, if_pos ha1]
    rw [hrow0] at hRRm
    have dv := o0.dir
    have av := o0.av
    unfold sm at dv av
    have wd : wr ((g 0).a.v - (g 0).dir) = (g 0).a.v - (g 0).dir := wr_in (by omega) (by omega)
    have hr := reduced64 ((g 0).a.v - (g 0).dir)
    have br := red_b ((g 0).a.v - (g 0).dir)
    have hwr := whole74 (redW ((g 0).a.v - (g 0).dir)) (by omega) (by omega)
    simp -dsimp -implicitDefEqProofs only [go_sem, seval, g0, ha1]
    refine AtFn.pure0 hw1 ?_
    simp -dsimp -implicitDefEqProofs only [go_sem, seval, gR0, c01, Int.le_refl, Nat.add_zero, Nat.zero_add]
    refine AtCode.draw 16 [([], []), ([], []), ([1], []), ([1, 2], []), ([1, 2, 3], []), ([1, 2, 3, 4], []), ([], []), ([6], []), ([6, 7], []), ([6, 7, 8], []), ([1, 2, 3, 4, 5, 6, 7, 8, 9], []), ([1, 2, 3, 4, 5, 6, 7, 8, 9, 10], []), ([1, 2, 3, 4, 5, 6, 7, 8, 9, 10, 11], []), ([0], []), ([0, 13], []), ([0, 1, 2, 3, 4, 5, 6, 7, 8, 9, 10, 11, 12, 13, 14], []), ([0, 1, 2, 3, 4, 5, 6, 7, 8, 9, 10, 11, 12, 13, 14, 15], [])] (by kernel_rfl) ?_
    simp -dsimp -implicitDefEqProofs only [go_sem, seval, g0, wd, c01, Nat.add_zero]
    refine QFn.use _ hr (by simp -dsimp -implicitDefEqProofs only [go_sem, seval]) ?_
    simp -dsimp -implicitDefEqProofs only [go_sem, seval]
    refine QFn.use _ hwr (by simp -dsimp -implicitDefEqProofs only [go_sem, seval]) ?_
    simp -dsimp -implicitDefEqProofs only [go_sem, seval, gs0, c01, Nat.add_zero, Nat.zero_add, Int.le_refl, List.set_set]
    by_cases hb1 : (g (m - 1)).b.op = 1
    · rw [hrm1 hb1] at hRRm
      have dv := ol.dir
      have av := ol.bv
      unfold sm at dv av
      have wd : wr ((g (m - 1)).dir - (g (m - 1)).b.v) = (g (m - 1)).dir - (g (m - 1)).b.v := wr_in (by omega) (by omega)
      have hr := reduced64 ((g (m - 1)).dir - (g (m - 1)).b.v)
      have br := red_b ((g (m - 1)).dir - (g (m - 1)).b.v)
      have wn : wr (0 - redW ((g (m - 1)).dir - (g (m - 1)).b.v)) = -(redW ((g (m - 1)).dir - (g (m - 1)).b.v)) := by rw [wr_in (by omega) (by omega)]; omega
      have hwr := whole74 (-(redW ((g (m - 1)).dir - (g (m - 1)).b.v))) (by omega) (by omega)
      simp -dsimp -implicitDefEqProofs only [go_sem, seval, gl, hb1]
      refine AtFn.pure0 hw1 ?_
      simp -dsimp -implicitDefEqProofs only [go_sem, seval, gsm, cm, Int.le_refl, Nat.add_zero, Nat.zero_add, Int.natCast_nonneg, Int.toNat_natCast]
      refine AtCode.draw 18 [([], []), ([], []), ([], []), ([2], []), ([2, 3], []), ([2, 3, 4], []), ([], []), ([6], []), ([6, 7], []), ([6, 7, 8], []), ([6, 7, 8, 9], []), ([2, 3, 4, 5, 6, 7, 8, 9, 10], []), ([2, 3, 4, 5, 6, 7, 8, 9, 10, 11], []), ([2, 3, 4, 5, 6, 7, 8, 9, 10, 11, 12], []), ([2, 3, 4, 5, 6, 7, 8, 9, 10, 11, 12, 13], []), ([0, 1], []), ([0, 1, 15], []), ([0, 1, 2, 3, 4, 5, 6, 7, 8, 9, 10, 11, 12, 13, 14, 15, 16], []), ([0, 1, 2, 3, 4, 5, 6, 7, 8, 9, 10, 11, 12, 13, 14, 15, 16, 17], [])] (by kernel_rfl) ?_
      simp -dsimp -implicitDefEqProofs only [go_sem, seval, gl, wd, cm, Nat.add_zero]
      refine QFn.use _ hr (by simp -dsimp -implicitDefEqProofs only [go_sem, seval]) ?_
      simp -dsimp -implicitDefEqProofs only [go_sem, seval, wn]
      refine QFn.use _ hwr (by simp -dsimp -implicitDefEqProofs only [go_sem, seval]) ?_
      simp -dsimp -implicitDefEqProofs only [go_sem, seval, gss, cm, Nat.add_zero, Nat.zero_add, Int.le_refl, List.set_set, Int.natCast_nonneg, Int.toNat_natCast]
      refine AtFn.le ⟨250, tl [(0, .sl 0 p m), (2, I (m : Nat)), (5, .sl 1 0 (m + 1)), (7, .sl 2 0 (m + 1)), (223, .sl 2 0 (m + 1))], [(0, ⟨19, LA⟩), (1, ⟨1, T.map fun n => [I n]⟩), (2, ⟨10, RR.map RwC⟩)], 3, ⟨[tl [(0, .sl 0 p m)]], some (.mp none)⟩⟩ [.sl 2 0 (m + 1)] (Le.tl (Ls := [[(0, .sl 0 p m)]]) [] (by simp -dsimp -implicitDefEqProofs only [go_sem, seval]) (by simp -dsimp -implicitDefEqProofs only [go_sem, seval]; exact ⟨renL_cl rfl clA, renL_cl rfl ((clI _).2 trivial), renL_cl2 (by rw [hRRm]; rfl) ((clRwL _).2 trivial)⟩) (by simp) (by simp [sg]) ⟨by simp -dsimp -implicitDefEqProofs only [go_sem, seval], trivial⟩) (by intro fo xs ts h; cases h; exact ⟨by simp -dsimp -implicitDefEqProofs only [go_sem, seval], by simp -dsimp -implicitDefEqProofs only [go_sem, seval]⟩) ?_
      refine AtFn.pure hel ?_
      simp -dsimp -implicitDefEqProofs only [go_sem, seval, List.length_map, hRRl, tRR, w1, c3, Nat.zero_add, Nat.le_refl, Int.natCast_nonneg, Int.toNat_natCast, Int.le_refl]
      refine ⟨{q : Nat × List Int // q.1 ≤ m + 1 ∧ ThI g m q.1 q.2}, fun q => ⟨250, tl [(0, .sl 0 p m), (5, .sl 1 0 (m + 1)), (13, P2s (xs (rowF g m) (m + 1))), (14, .ptr 2 0 0), (15, .sl 3 0 (m + 1)), (231, I ((m + 1 : Nat) : Int)), (232, I q.1.1)], [(0, ⟨19, LA⟩), (1, ⟨1, T.map fun n => [I n]⟩), (2, ⟨2, [BigC (qE (rowF g m) (m + 1))]⟩), (3, ⟨1, q.1.2.map fun n => [I n]⟩)], 4, ⟨[tl [(0, .sl 0 p m)]], some (.mp none)⟩⟩, fun q => m + 1 - q.1.1,
        ⟨⟨(0, List.replicate (m + 1) 0), Nat.zero_le _, by simp, fun j hj => absurd hj (Nat.not_lt_zero _)⟩, Le.tl (Ls := [[(0, .sl 0 p m)]]) [(2, 3), (3, 4)] (by simp -dsimp -implicitDefEqProofs only [go_sem, seval]) ?_ (by simp) (by simp [sg]) ⟨by simp -dsimp -implicitDefEqProofs only [go_sem, seval], trivial⟩⟩, fun q => ?_⟩
      · simp -dsimp -implicitDefEqProofs only [go_sem, seval]
        exact ⟨renL_cl rfl clA, renL_cl rfl ((clI _).2 trivial), renL_cl rfl (clB1 _), renL_cl2 (by rw [List.map_replicate]) ((clI _).2 trivial)⟩
      obtain ⟨⟨j, S⟩, hj, hS⟩ := q
      simp only at hj hS
      simp -dsimp -implicitDefEqProofs only [go_sem, seval]
      refine ⟨fun h11 => ?_, fun h11 => ?_⟩
      · have hjm : j < m + 1 := by omega
        have e3 : wr (((j : Nat) : Int) + 1) = ((j + 1 : Nat) : Int) := by rw [wr_in] <;> omega
        have cj : ((j : Nat) : Int) < ((m + 1 : Nat) : Int) := by omega
        have gX := getXs (f := rowF g m) (n := m + 1) hjm
        have gS := getI1 (D := S) (i := j) (by rw [hS.1]; omega)
        have hro := hrd j hjm
        refine AtCode.draw 10 [([], []), ([], []), ([], []), ([], []), ([2, 3], []), ([2, 3, 4], []), ([2, 3, 4, 5], []), ([], []), ([2, 3, 4, 5, 6, 7], []), ([0, 1, 2, 3, 4, 5, 6, 7, 8], []), ([0, 1, 2, 3, 4, 5, 6, 7, 8, 9], [])] (by kernel_rfl) ?_
        simp -dsimp -implicitDefEqProofs only [go_sem, seval, gX, cj, Int.natCast_nonneg, Int.toNat_natCast, Nat.zero_add, show (0 : Int) ≤ 0 by decide, show (0 : Int) < 2 by decide]
        refine QFn.use _ hro (by simp -dsimp -implicitDefEqProofs only [go_sem, seval]) ?_
        simp -dsimp -implicitDefEqProofs only [go_sem, seval, gS, cj, e3, Int.natCast_nonneg, Int.toNat_natCast, Nat.zero_add, setI1]
        refine ⟨⟨(j + 1, _), by show j + 1 ≤ m + 1; omega, th_step hjm hS⟩, by show m + 1 - (j + 1) < m + 1 - j; omega, Le.tl (Ls := [[(0, .sl 0 p m)]]) [] (by simp -dsimp -implicitDefEqProofs only [go_sem, seval, e3]) ?_ (by simp) (by simp [sg]) ⟨by simp -dsimp -implicitDefEqProofs only [go_sem, seval], trivial⟩⟩
        simp -dsimp -implicitDefEqProofs only [go_sem, seval]
        exact ⟨renL_cl rfl clA, renL_cl rfl ((clI _).2 trivial), renL_cl rfl (clB1 _), renL_cl rfl ((clI _).2 trivial)⟩
      have hjm : j = m + 1 := by omega
      subst hjm
      obtain ⟨hSl, hSj⟩ := hS
      refine AtFn.inl 400 [] mixed Try.func72 (by kernel_rfl) rfl (by rw [Try.results72]; rfl) (Nat.le_of_ble_eq_true rfl) ?_; rw [Try.ntmps72]
      simp -dsimp -implicitDefEqProofs only [go_sem, seval]
      refine ⟨{i : Nat // i ≤ m}, fun i => ⟨37, tl [(0, .sl 0 p m), (1, .sl 2 0 (m + 1)), (2, .sl 1 0 (m + 1)), (8, I (m : Nat)), (9, I i.1)], [(0, ⟨19, (pre ++ midI g m i.1 ++ post).map ArC⟩), (1, ⟨1, T.map fun n => [I n]⟩), (2, ⟨1, S.map fun n => [I n]⟩)], 3, ⟨[tl [], tl [(0, .sl 0 p m)]], some (.mp none)⟩⟩, fun i => m - i.1,
        ⟨⟨0, Nat.zero_le _⟩, Le.tl (Ls := [[], [(0, .sl 0 p m)]]) [(2, 3)] (by simp -dsimp -implicitDefEqProofs only [go_sem, seval]) ?_ (by simp) (by simp [sg]) ⟨by simp -dsimp -implicitDefEqProofs only [go_sem, seval], by simp -dsimp -implicitDefEqProofs only [go_sem, seval], trivial⟩⟩, fun i => ?_⟩
      · simp -dsimp -implicitDefEqProofs only [go_sem, seval]
        exact ⟨renL_cl2 hLA0 ((clArsL _).2 trivial), renL_cl rfl ((clI _).2 trivial), renL_cl rfl ((clI _).2 trivial)⟩
      obtain ⟨i, hi⟩ := i
      simp -dsimp -implicitDefEqProofs only [go_sem, seval]
      refine ⟨fun h12 => ?_, fun h12 => ?_⟩
      · have him : i < m := by omega
        have e4 : wr (((i : Nat) : Int) + 1) = ((i + 1 : Nat) : Int) := by rw [wr_in] <;> omega
        have ci : ((i : Nat) : Int) < ((m : Nat) : Int) := by omega
        have ci2 : ((i : Nat) : Int) < ((m + 1 : Nat) : Int) := by omega
        have ci3 : ((i + 1 : Nat) : Int) < ((m + 1 : Nat) : Int) := by omega
        have gM := getMid pre post (g := g) him
        rw [← hp] at gM
        have gSi := getI1 (D := S) (i := i) (by omega)
        rw [hSj i (by omega)] at gSi
        have gSi1 := getI1 (D := S) (i := i + 1) (by omega)
        rw [hSj (i + 1) (by omega)] at gSi1
        have gTi1 := getI1 (D := T) (i := i + 1) (by omega)
        rw [hTe (i + 1) (by omega)] at gTi1
        have bt := turn_b g m (i + 1)
        have ntt : wr (0 - turnF g m (i + 1)) = -(turnF g m (i + 1)) := by rw [wr_in (by omega) (by omega)]; omega
        have hst := setMid pre post (g := g) him
        rw [← hp] at hst
        have gset : ∀ X, (((pre ++ midI g m i ++ post).map ArC).set (p + i) X)[p + i]? = some X := fun X => by
          rw [List.getElem?_set_self (by have := (List.getElem?_eq_some_iff.1 gM).1; exact this)]
        refine AtCode.drawB 22 [([], []), ([], []), ([], [0]), ([], [0]), ([], []), ([], []), ([4, 5], []), ([4, 5, 6], []), ([], []), ([], []), ([9], []), ([8, 9, 10], []), ([8, 9, 10, 11], []), ([8, 9, 10, 11, 12], [0]), ([], []), ([], []), ([15], []), ([14, 15, 16], []), ([14, 15, 16, 17], []), ([8, 9, 10, 11, 12, 13, 14, 15, 16, 17, 18], [0]), ([0, 1, 4, 5, 6, 7, 8, 9, 10, 11, 12, 14, 15, 16, 17, 18], []), ([0, 1, 4, 5, 6, 7, 8, 9, 10, 11, 12, 14, 15, 16, 17, 18, 20], []), ([0, 1, 4, 5, 6, 7, 8, 9, 10, 11, 12, 14, 15, 16, 17, 18, 20, 21], []), ([0, 1, 2, 3, 4, 5, 6, 7, 8, 9, 10, 11, 12, 13, 14, 15, 16, 17, 18, 19, 20, 21, 22], []), ([0, 1, 2, 3, 4, 5, 6, 7, 8, 9, 10, 11, 12, 13, 14, 15, 16, 17, 18, 19, 20, 21, 22, 23], []), ([0, 1, 2, 3, 4, 5, 6, 7, 8, 9, 10, 11, 12, 13, 14, 15, 16, 17, 18, 19, 20, 21, 22, 23, 24], [])] [false, true, true, true] (by kernel_rfl) ?_
        simp -dsimp -implicitDefEqProofs only [go_sem, seval, gM, gset, gSi, gSi1, gTi1, ntt, e4, ci, ci2, ci3, Int.natCast_nonneg, Int.toNat_natCast, Nat.zero_add, List.set_set]
        refine ⟨by kernel_rfl, ?_⟩
        refine ⟨⟨i + 1, by omega⟩, by show m - (i + 1) < m - i; omega, Le.tl (Ls := [[], [(0, .sl 0 p m)]]) [] (by simp -dsimp -implicitDefEqProofs only [go_sem, seval, e4]) ?_ (by simp) (by simp [sg]) ⟨by simp -dsimp -implicitDefEqProofs only [go_sem, seval], by simp -dsimp -implicitDefEqProofs only [go_sem, seval], trivial⟩⟩
        simp -dsimp -implicitDefEqProofs only [go_sem, seval]
        exact ⟨renL_cl2 hst ((clArsL _).2 trivial), renL_cl rfl ((clI _).2 trivial), renL_cl rfl ((clI _).2 trivial)⟩
      have him : m = i := by omega
      subst him
      have hne0 : LA ≠ [] := by intro e; rw [e] at hlen; simp at hlen; omega
      have hne1 : (pre ++ midI g m m ++ post).map ArC ≠ [] := by intro e; have := congrArg List.length e; simp [mid_len] at this; omega
      refine FinM2.mkv [] [(0, .sl 0 p m)] ?_ ?_ ?_ ?_ ?_
      · simp -dsimp -implicitDefEqProofs only [go_sem, seval]
        exact renL_cl rfl ((clArsL _).2 trivial)
      · simp
      · simp [sg]
      · simp -dsimp -implicitDefEqProofs only [go_sem, seval]
      · simp only [List.mem_singleton, forall_eq]
        exact ⟨0, p, m - 1, _, _, by rw [Nat.sub_add_cancel hm]; rfl, by rw [Nat.sub_add_cancel hm]; simp -dsimp -implicitDefEqProofs only [go_sem, seval], rfl, rfl, rfl, hne0, hne1⟩
    · rw [hrm0 hb1] at hRRm
      have hcu2 := curl75 (g (m - 1)).b.v (g (m - 1)).b.t (g (m - 1)).a.t ol.bv ol.bt ol.at_
      simp -dsimp -implicitDefEqProofs only [go_sem, seval, gl, hb1]
      refine AtCode.drawB 21 [([], []), ([0], []), ([0, 1], []), ([0, 1, 2], []), ([0, 1, 2, 3], []), ([], []), ([5], []), ([5, 6], []), ([5, 6, 7], []), ([5, 6, 7, 8], []), ([], []), ([10], []), ([10, 11], []), ([10, 11, 12], []), ([10, 11, 12, 13], []), ([0, 1, 2, 3, 4, 5, 6, 7, 8, 9, 10, 11, 12, 13, 14], []), ([0, 1, 2, 3, 4, 5, 6, 7, 8, 9, 10, 11, 12, 13, 14, 15], []), ([0, 1, 2, 3, 4, 5, 6, 7, 8, 9, 10, 11, 12, 13, 14, 15, 16], []), ([0, 1, 2, 3, 4, 5, 6, 7, 8, 9, 10, 11, 12, 13, 14, 15, 16], [38]), ([], []), ([], []), ([0, 1, 2, 3, 4, 5, 6, 7, 8, 9, 10, 11, 12, 13, 14, 15, 16, 17, 19, 20], []), ([0, 1, 2, 3, 4, 5, 6, 7, 8, 9, 10, 11, 12, 13, 14, 15, 16, 17, 18, 19, 20, 21], [])] [false, true] (by kernel_rfl) ?_
      simp -dsimp -implicitDefEqProofs only [go_sem, seval, gl, Nat.add_zero]
      refine QFn.use _ hcu2 (by simp -dsimp -implicitDefEqProofs only [go_sem, seval]) ?_
      simp -dsimp -implicitDefEqProofs only [go_sem, seval]
      refine ⟨by kernel_rfl, ?_⟩
      refine AtCode.drawB 8 [([], []), ([], []), ([], [2]), ([], [2]), ([], []), ([], [2]), ([0, 1, 4], []), ([0, 1, 4, 6], []), ([0, 1, 4, 6, 7], []), ([0, 1, 2, 3, 4, 5, 6, 7, 8], []), ([0, 1, 2, 3, 4, 5, 6, 7, 8, 9], []), ([0, 1, 2, 3, 4, 5, 6, 7, 8, 9, 10], [])] [false, true, true, true] (by kernel_rfl) ?_
      simp -dsimp -implicitDefEqProofs only [go_sem, seval, gsm, gss, cm, Nat.add_zero, Nat.zero_add, Int.le_refl, List.set_set, Int.natCast_nonneg, Int.toNat_natCast]
      refine ⟨by kernel_rfl, ?_⟩
      refine AtFn.le ⟨250, tl [(0, .sl 0 p m), (2, I (m : Nat)), (5, .sl 1 0 (m + 1)), (7, .sl 2 0 (m + 1)), (223, .sl 2 0 (m + 1))], [(0, ⟨19, LA⟩), (1, ⟨1, T.map fun n => [I n]⟩), (2, ⟨10, RR.map RwC⟩)], 3, ⟨[tl [(0, .sl 0 p m)]], some (.mp none)⟩⟩ [.sl 2 0 (m + 1)] (Le.tl (Ls := [[(0, .sl 0 p m)]]) [] (by simp -dsimp -implicitDefEqProofs only [go_sem, seval]) (by simp -dsimp -implicitDefEqProofs only [go_sem, seval]; exact ⟨renL_cl rfl clA, renL_cl rfl ((clI _).2 trivial), renL_cl2 (by rw [hRRm]; rfl) ((clRwL _).2 trivial)⟩) (by simp) (by simp [sg]) ⟨by simp -dsimp -implicitDefEqProofs only [go_sem, seval], trivial⟩) (by intro fo xs ts h; cases h; exact ⟨by simp -dsimp -implicitDefEqProofs only [go_sem, seval], by simp -dsimp -implicitDefEqProofs only [go_sem, seval]⟩) ?_
      refine AtFn.pure hel ?_
      simp -dsimp -implicitDefEqProofs only [go_sem, seval, List.length_map, hRRl, tRR, w1, c3, Nat.zero_add, Nat.le_refl, Int.natCast_nonneg, Int.toNat_natCast, Int.le_refl]
      refine ⟨{q : Nat × List Int // q.1 ≤ m + 1 ∧ ThI g m q.1 q.2}, fun q => ⟨250, tl [(0, .sl 0 p m), (5, .sl 1 0 (m + 1)), (13, P2s (xs (rowF g m) (m + 1))), (14, .ptr 2 0 0), (15, .sl 3 0 (m + 1)), (231, I ((m + 1 : Nat) : Int)), (232, I q.1.1)], [(0, ⟨19, LA⟩), (1, ⟨1, T.map fun n => [I n]⟩), (2, ⟨2, [BigC (qE (rowF g m) (m + 1))]⟩), (3, ⟨1, q.1.2.map fun n => [I n]⟩)], 4, ⟨[tl [(0, .sl 0 p m)]], some (.mp none)⟩⟩, fun q => m + 1 - q.1.1,
        ⟨⟨(0, List.replicate (m + 1) 0), Nat.zero_le _, by simp, fun j hj => absurd hj (Nat.not_lt_zero _)⟩, Le.tl (Ls := [[(0, .sl 0 p m)]]) [(2, 3), (3, 4)] (by simp -dsimp -implicitDefEqProofs only [go_sem, seval]) ?_ (by simp) (by simp [sg]) ⟨by simp -dsimp -implicitDefEqProofs only [go_sem, seval], trivial⟩⟩, fun q => ?_⟩
      · simp -dsimp -implicitDefEqProofs only [go_sem, seval]
        exact ⟨renL_cl rfl clA, renL_cl rfl ((clI _).2 trivial), renL_cl rfl (clB1 _), renL_cl2 (by rw [List.map_replicate]) ((clI _).2 trivial)⟩
      obtain ⟨⟨j, S⟩, hj, hS⟩ := q
      simp only at hj hS
      simp -dsimp -implicitDefEqProofs only [go_sem, seval]
      refine ⟨fun h11 => ?_, fun h11 => ?_⟩
      · have hjm : j < m + 1 := by omega
        have e3 : wr (((j : Nat) : Int) + 1) = ((j + 1 : Nat) : Int) := by rw [wr_in] <;> omega
        have cj : ((j : Nat) : Int) < ((m + 1 : Nat) : Int) := by omega
        have gX := getXs (f := rowF g m) (n := m + 1) hjm
        have gS := getI1 (D := S) (i := j) (by rw [hS.1]; omega)
        have hro := hrd j hjm
        refine AtCode.draw 10 [([], []), ([], []), ([], []), ([], []), ([2, 3], []), ([2, 3, 4], []), ([2, 3, 4, 5], []), ([], []), ([2, 3, 4, 5, 6, 7], []), ([0, 1, 2, 3, 4, 5, 6, 7, 8], []), ([0, 1, 2, 3, 4, 5, 6, 7, 8, 9], [])] (by kernel_rfl) ?_
        simp -dsimp -implicitDefEqProofs only [go_sem, seval, gX, cj, Int.natCast_nonneg, Int.toNat_natCast, Nat.zero_add, show (0 : Int) ≤ 0 by decide, show (0 : Int) < 2 by decide]
        refine QFn.use _ hro (by simp -dsimp -implicitDefEqProofs only [go_sem, seval]) ?_
        simp -dsimp -implicitDefEqProofs only [go_sem, seval, gS, cj, e3, Int.natCast_nonneg, Int.toNat_natCast, Nat.zero_add, setI1]
        refine ⟨⟨(j + 1, _), by show j + 1 ≤ m + 1; omega, th_step hjm hS⟩, by show m + 1 - (j + 1) < m + 1 - j; omega, Le.tl (Ls := [[(0, .sl 0 p m)]]) [] (by simp -dsimp -implicitDefEqProofs only [go_sem, seval, e3]) ?_ (by simp) (by simp [sg]) ⟨by simp -dsimp -implicitDefEqProofs only [go_sem, seval], trivial⟩⟩
        simp -dsimp -implicitDefEqProofs only [go_sem, seval]
        exact ⟨renL_cl rfl clA, renL_cl rfl ((clI _).2 trivial), renL_cl rfl (clB1 _), renL_cl rfl ((clI _).2 trivial)⟩
      have hjm : j = m + 1 := by omega
      subst hjm
      obtain ⟨hSl, hSj⟩ := hS
      refine AtFn.inl 400 [] mixed Try.func72 (by kernel_rfl) rfl (by rw [Try.results72]; rfl) (Nat.le_of_ble_eq_true rfl) ?_; rw [Try.ntmps72]
      simp -dsimp -implicitDefEqProofs only [go_sem, seval]
      refine ⟨{i : Nat // i ≤ m}, fun i => ⟨37, tl [(0, .sl 0 p m), (1, .sl 2 0 (m + 1)), (2, .sl 1 0 (m + 1)), (8, I (m : Nat)), (9, I i.1)], [(0, ⟨19, (pre ++ midI g m i.1 ++ post).map ArC⟩), (1, ⟨1, T.map fun n => [I n]⟩), (2, ⟨1, S.map fun n => [I n]⟩)], 3, ⟨[tl [], tl [(0, .sl 0 p m)]], some (.mp none)⟩⟩, fun i => m - i.1,
        ⟨⟨0, Nat.zero_le _⟩, Le.tl (Ls := [[], [(0, .sl 0 p m)]]) [(2, 3)] (by simp -dsimp -implicitDefEqProofs only [go_sem, seval]) ?_ (by simp) (by simp [sg]) ⟨by simp -dsimp -implicitDefEqProofs only [go_sem, seval], by simp -dsimp -implicitDefEqProofs only [go_sem, seval], trivial⟩⟩, fun i => ?_⟩
      · simp -dsimp -implicitDefEqProofs only [go_sem, seval]
        exact ⟨renL_cl2 hLA0 ((clArsL _).2 trivial), renL_cl rfl ((clI _).2 trivial), renL_cl rfl ((clI _).2 trivial)⟩
      obtain ⟨i, hi⟩ := i
      simp -dsimp -implicitDefEqProofs only [go_sem, seval]
      refine ⟨fun h12 => ?_, fun h12 => ?_⟩
      · have him : i < m := by omega
        have e4 : wr (((i : Nat) : Int) + 1) = ((i + 1 : Nat) : Int) := by rw [wr_in] <;> omega
        have ci : ((i : Nat) : Int) < ((m : Nat) : Int) := by omega
        have ci2 : ((i : Nat) : Int) < ((m + 1 : Nat) : Int) := by omega
        have ci3 : ((i + 1 : Nat) : Int) < ((m + 1 : Nat) : Int) := by omega
        have gM := getMid pre post (g := g) him
        rw [← hp] at gM
        have gSi := getI1 (D := S) (i := i) (by omega)
        rw [hSj i (by omega)] at gSi
        have gSi1 := getI1 (D := S) (i := i + 1) (by omega)
        rw [hSj (i + 1) (by omega)] at gSi1
        have gTi1 := getI1 (D := T) (i := i + 1) (by omega)
        rw [hTe (i + 1) (by omega)] at gTi1
        have bt := turn_b g m (i + 1)
        have ntt : wr (0 - turnF g m (i + 1)) = -(turnF g m (i + 1)) := by rw [wr_in (by omega) (by omega)]; omega
        have hst := setMid pre post (g := g) him
        rw [← hp] at hst
        have gset : ∀ X, (((pre ++ midI g m i ++ post).map ArC).set (p + i) X)[p + i]? = some X := fun X => by
          rw [List.getElem?_set_self (by have := (List.getElem?_eq_some_iff.1 gM).1; exact this)]
        refine AtCode.drawB 22 [([], []), ([], []), ([], [0]), ([], [0]), ([], []), ([], []), ([4, 5], []), ([4, 5, 6], []), ([], []), ([], []), ([9], []), ([8, 9, 10], []), ([8, 9, 10, 11], []), ([8, 9, 10, 11, 12], [0]), ([], []), ([], []), ([15], []), ([14, 15, 16], []), ([14, 15, 16, 17], []), ([8, 9, 10, 11, 12, 13, 14, 15, 16, 17, 18], [0]), ([0, 1, 4, 5, 6, 7, 8, 9, 10, 11, 12, 14, 15, 16, 17, 18], []), ([0, 1, 4, 5, 6, 7, 8, 9, 10, 11, 12, 14, 15, 16, 17, 18, 20], []), ([0, 1, 4, 5, 6, 7, 8, 9, 10, 11, 12, 14, 15, 16, 17, 18, 20, 21], []), ([0, 1, 2, 3, 4, 5, 6, 7, 8, 9, 10, 11, 12, 13, 14, 15, 16, 17, 18, 19, 20, 21, 22], []), ([0, 1, 2, 3, 4, 5, 6, 7, 8, 9, 10, 11, 12, 13, 14, 15, 16, 17, 18, 19, 20, 21, 22, 23], []), ([0, 1, 2, 3, 4, 5, 6, 7, 8, 9, 10, 11, 12, 13, 14, 15, 16, 17, 18, 19, 20, 21, 22, 23, 24], [])] [false, true, true, true] (by kernel_rfl) ?_
        simp -dsimp -implicitDefEqProofs only [go_sem, seval, gM, gset, gSi, gSi1, gTi1, ntt, e4, ci, ci2, ci3, Int.natCast_nonneg, Int.toNat_natCast, Nat.zero_add, List.set_set]
        refine ⟨by kernel_rfl, ?_⟩
        refine ⟨⟨i + 1, by omega⟩, by show m - (i + 1) < m - i; omega, Le.tl (Ls := [[], [(0, .sl 0 p m)]]) [] (by simp -dsimp -implicitDefEqProofs only [go_sem, seval, e4]) ?_ (by simp) (by simp [sg]) ⟨by simp -dsimp -implicitDefEqProofs only [go_sem, seval], by simp -dsimp -implicitDefEqProofs only [go_sem, seval], trivial⟩⟩
        simp -dsimp -implicitDefEqProofs only [go_sem, seval]
        exact ⟨renL_cl2 hst ((clArsL _).2 trivial), renL_cl rfl ((clI _).2 trivial), renL_cl rfl ((clI _).2 trivial)⟩
      have him : m = i := by omega
      subst him
      have hne0 : LA ≠ [] := by intro e; rw [e] at hlen; simp at hlen; omega
      have hne1 : (pre ++ midI g m m ++ post).map ArC ≠ [] := by intro e; have := congrArg List.length e; simp [mid_len] at this; omega
      refine FinM2.mkv [] [(0, .sl 0 p m)] ?_ ?_ ?_ ?_ ?_
      · simp -dsimp -implicitDefEqProofs only [go_sem, seval]
        exact renL_cl rfl ((clArsL _).2 trivial)
      · simp
      · simp [sg]
      · simp -dsimp -implicitDefEqProofs only [go_sem, seval]
      · simp only [List.mem_singleton, forall_eq]
        exact ⟨0, p, m - 1, _, _, by rw [Nat.sub_add_cancel hm]; rfl, by rw [Nat.sub_add_cancel hm]; simp -dsimp -implicitDefEqProofs only [go_sem, seval], rfl, rfl, rfl, hne0, hne1⟩
  · have hrow0 : rowF g m 0 = ⟨0, curF (g 0).a.v (g 0).a.t (g 0).b.t, curG (g 0).a.v (g 0).a.t (g 0).b.t, curG (g 0).a.v (g 0).a.t (g 0).b.t * -(turnF g m 1), 0⟩ := by unfold rowF; rw [if_pos rfl, if_neg ha1]
    rw [hrow0] at hRRm
    have hcu := curl75 (g 0).a.v (g 0).a.t (g 0).b.t o0.av o0.at_ o0.bt
    have hwt := whole74 (-(turnF g m 1)) (by omega) (by omega)
    have hG : bd 13 (curG (g 0).a.v (g 0).a.t (g 0).b.t) := curG_b o0.av o0.at_ o0.bt
    have htm := times69 (curG (g 0).a.v (g 0).a.t (g 0).b.t) (-(turnF g m 1)) (bd_sz hG (by decide)) (bd_sz (bd_int (x := -(turnF g m 1)) (by omega) (by omega)) (by decide))
    simp -dsimp -implicitDefEqProofs only [go_sem, seval, g0, ha1]
    refine AtCode.drawB 21 [([], []), ([0], []), ([0, 1], []), ([0, 1, 2], []), ([0, 1, 2, 3], []), ([], []), ([5], []), ([5, 6], []), ([5, 6, 7], []), ([5, 6, 7, 8], []), ([], []), ([10], []), ([10, 11], []), ([10, 11, 12], []), ([10, 11, 12, 13], []), ([0, 1, 2, 3, 4, 5, 6, 7, 8, 9, 10, 11, 12, 13, 14], []), ([0, 1, 2, 3, 4, 5, 6, 7, 8, 9, 10, 11, 12, 13, 14, 15], []), ([0, 1, 2, 3, 4, 5, 6, 7, 8, 9, 10, 11, 12, 13, 14, 15, 16], []), ([0, 1, 2, 3, 4, 5, 6, 7, 8, 9, 10, 11, 12, 13, 14, 15, 16], [22]), ([], []), ([], []), ([0, 1, 2, 3, 4, 5, 6, 7, 8, 9, 10, 11, 12, 13, 14, 15, 16, 17, 19, 20], []), ([0, 1, 2, 3, 4, 5, 6, 7, 8, 9, 10, 11, 12, 13, 14, 15, 16, 17, 18, 19, 20, 21], [])] [false, true] (by kernel_rfl) ?_
    simp -dsimp -implicitDefEqProofs only [go_sem, seval, g0, Nat.add_zero]
    refine QFn.use _ hcu (by simp -dsimp -implicitDefEqProofs only [go_sem, seval]) ?_
    simp -dsimp -implicitDefEqProofs only [go_sem, seval]
    refine ⟨by kernel_rfl, ?_⟩
    refine AtCode.drawB 6 [([], []), ([], [2]), ([], []), ([], [2]), ([0, 2], []), ([0, 2, 4], []), ([0, 2, 4, 5], []), ([0, 1, 2, 3, 4, 5, 6], []), ([0, 1, 2, 3, 4, 5, 6, 7], []), ([0, 1, 2, 3, 4, 5, 6, 7, 8], [])] [false, true, true, true] (by kernel_rfl) ?_
    simp -dsimp -implicitDefEqProofs only [go_sem, seval, gR0, gs0, c01, Nat.add_zero, Nat.zero_add, Int.le_refl, List.set_set]
    refine ⟨by kernel_rfl, ?_⟩
    refine AtCode.draw 11 [([], []), ([], []), ([], []), ([2], []), ([2, 3], []), ([2, 3, 4], []), ([2, 3, 4, 5], []), ([1, 2, 3, 4, 5, 6], []), ([0], []), ([0, 8], []), ([0, 1, 2, 3, 4, 5, 6, 7, 8, 9], []), ([0, 1, 2, 3, 4, 5, 6, 7, 8, 9, 10], [])] (by kernel_rfl) ?_
    simp -dsimp -implicitDefEqProofs only [go_sem, seval, gT1, c11, nt1, Nat.add_zero, Nat.zero_add, Int.le_refl, show (0 : Int) ≤ 1 by decide]
    refine QFn.use _ hwt (by simp -dsimp -implicitDefEqProofs only [go_sem, seval]) ?_
    simp -dsimp -implicitDefEqProofs only [go_sem, seval]
    refine QFn.use _ htm (by simp -dsimp -implicitDefEqProofs only [go_sem, seval]) ?_
    simp -dsimp -implicitDefEqProofs only [go_sem, seval, gs0, c01, Nat.add_zero, Nat.zero_add, Int.le_refl, List.set_set]
    by_cases hb1 : (g (m - 1)).b.op = 1
    · rw [hrm1 hb1] at hRRm
      have dv := ol.dir
      have av := ol.bv
      unfold sm at dv av
      have wd : wr ((g (m - 1)).dir - (g (m - 1)).b.v) = (g (m - 1)).dir - (g (m - 1)).b.v := wr_in (by omega) (by omega)
      have hr := reduced64 ((g (m - 1)).dir - (g (m - 1)).b.v)
      have br := red_b ((g (m - 1)).dir - (g (m - 1)).b.v)
      have wn : wr (0 - redW ((g (m - 1)).dir - (g (m - 1)).b.v)) = -(redW ((g (m - 1)).dir - (g (m - 1)).b.v)) := by rw [wr_in (by omega) (by omega)]; omega
      have hwr := whole74 (-(redW ((g (m - 1)).dir - (g (m - 1)).b.v))) (by omega) (by omega)
      simp -dsimp -implicitDefEqProofs only [go_sem, seval, gl, hb1]
      refine AtFn.pure0 hw1 ?_
      simp -dsimp -implicitDefEqProofs only [go_sem, seval, gsm, cm, Int.le_refl, Nat.add_zero, Nat.zero_add, Int.natCast_nonneg, Int.toNat_natCast]
      refine AtCode.draw 18 [([], []), ([], []), ([], []), ([2], []), ([2, 3], []), ([2, 3, 4], []), ([], []), ([6], []), ([6, 7], []), ([6, 7, 8], []), ([6, 7, 8, 9], []), ([2, 3, 4, 5, 6, 7, 8, 9, 10], []), ([2, 3, 4, 5, 6, 7, 8, 9, 10, 11], []), ([2, 3, 4, 5, 6, 7, 8, 9, 10, 11, 12], []), ([2, 3, 4, 5, 6, 7, 8, 9, 10, 11, 12, 13], []), ([0, 1], []), ([0, 1, 15], []), ([0, 1, 2, 3, 4, 5, 6, 7, 8, 9, 10, 11, 12, 13, 14, 15, 16], []), ([0, 1, 2, 3, 4, 5, 6, 7, 8, 9, 10, 11, 12, 13, 14, 15, 16, 17], [])] (by kernel_rfl) ?_
      simp -dsimp -implicitDefEqProofs only [go_sem, seval, gl, wd, cm, Nat.add_zero]
      refine QFn.use _ hr (by simp -dsimp -implicitDefEqProofs only [go_sem, seval]) ?_
      simp -dsimp -implicitDefEqProofs only [go_sem, seval, wn]
      refine QFn.use _ hwr (by simp -dsimp -implicitDefEqProofs only [go_sem, seval]) ?_
      simp -dsimp -implicitDefEqProofs only [go_sem, seval, gss, cm, Nat.add_zero, Nat.zero_add, Int.le_refl, List.set_set, Int.natCast_nonneg, Int.toNat_natCast]
      refine AtFn.le ⟨250, tl [(0, .sl 0 p m), (2, I (m : Nat)), (5, .sl 1 0 (m + 1)), (7, .sl 2 0 (m + 1)), (223, .sl 2 0 (m + 1))], [(0, ⟨19, LA⟩), (1, ⟨1, T.map fun n => [I n]⟩), (2, ⟨10, RR.map RwC⟩)], 3, ⟨[tl [(0, .sl 0 p m)]], some (.mp none)⟩⟩ [.sl 2 0 (m + 1)] (Le.tl (Ls := [[(0, .sl 0 p m)]]) [] (by simp -dsimp -implicitDefEqProofs only [go_sem, seval]) (by simp -dsimp -implicitDefEqProofs only [go_sem, seval]; exact ⟨renL_cl rfl clA, renL_cl rfl ((clI _).2 trivial), renL_cl2 (by rw [hRRm]; rfl) ((clRwL _).2 trivial)⟩) (by simp) (by simp [sg]) ⟨by simp -dsimp -implicitDefEqProofs only [go_sem, seval], trivial⟩) (by intro fo xs ts h; cases h; exact ⟨by simp -dsimp -implicitDefEqProofs only [go_sem, seval], by simp -dsimp -implicitDefEqProofs only [go_sem, seval]⟩) ?_
      refine AtFn.pure hel ?_
      simp -dsimp -implicitDefEqProofs only [go_sem, seval, List.length_map, hRRl, tRR, w1, c3, Nat.zero_add, Nat.le_refl, Int.natCast_nonneg, Int.toNat_natCast, Int.le_refl]
      refine ⟨{q : Nat × List Int // q.1 ≤ m + 1 ∧ ThI g m q.1 q.2}, fun q => ⟨250, tl [(0, .sl 0 p m), (5, .sl 1 0 (m + 1)), (13, P2s (xs (rowF g m) (m + 1))), (14, .ptr 2 0 0), (15, .sl 3 0 (m + 1)), (231, I ((m + 1 : Nat) : Int)), (232, I q.1.1)], [(0, ⟨19, LA⟩), (1, ⟨1, T.map fun n => [I n]⟩), (2, ⟨2, [BigC (qE (rowF g m) (m + 1))]⟩), (3, ⟨1, q.1.2.map fun n => [I n]⟩)], 4, ⟨[tl [(0, .sl 0 p m)]], some (.mp none)⟩⟩, fun q => m + 1 - q.1.1,
        ⟨⟨(0, List.replicate (m + 1) 0), Nat.zero_le _, by simp, fun j hj => absurd hj (Nat.not_lt_zero _)⟩, Le.tl (Ls := [[(0, .sl 0 p m)]]) [(2, 3), (3, 4)] (by simp -dsimp -implicitDefEqProofs only [go_sem, seval]) ?_ (by simp) (by simp [sg]) ⟨by simp -dsimp -implicitDefEqProofs only [go_sem, seval], trivial⟩⟩, fun q => ?_⟩
      · simp -dsimp -implicitDefEqProofs only [go_sem, seval]
        exact ⟨renL_cl rfl clA, renL_cl rfl ((clI _).2 trivial), renL_cl rfl (clB1 _), renL_cl2 (by rw [List.map_replicate]) ((clI _).2 trivial)⟩
      obtain ⟨⟨j, S⟩, hj, hS⟩ := q
      simp only at hj hS
      simp -dsimp -implicitDefEqProofs only [go_sem, seval]
      refine ⟨fun h11 => ?_, fun h11 => ?_⟩
      · have hjm : j < m + 1 := by omega
        have e3 : wr (((j : Nat) : Int) + 1) = ((j + 1 : Nat) : Int) := by rw [wr_in] <;> omega
        have cj : ((j : Nat) : Int) < ((m + 1 : Nat) : Int) := by omega
        have gX := getXs (f := rowF g m) (n := m + 1) hjm
        have gS := getI1 (D := S) (i := j) (by rw [hS.1]; omega)
        have hro := hrd j hjm
        refine AtCode.draw 10 [([], []), ([], []), ([], []), ([], []), ([2, 3], []), ([2, 3, 4], []), ([2, 3, 4, 5], []), ([], []), ([2, 3, 4, 5, 6, 7], []), ([0, 1, 2, 3, 4, 5, 6, 7, 8], []), ([0, 1, 2, 3, 4, 5, 6, 7, 8, 9], [])] (by kernel_rfl) ?_
        simp -dsimp -implicitDefEqProofs only [go_sem, seval, gX, cj, Int.natCast_nonneg, Int.toNat_natCast, Nat.zero_add, show (0 : Int) ≤ 0 by decide, show (0 : Int) < 2 by decide]
        refine QFn.use _ hro (by simp -dsimp -implicitDefEqProofs only [go_sem, seval]) ?_
        simp -dsimp -implicitDefEqProofs only [go_sem, seval, gS, cj, e3, Int.natCast_nonneg, Int.toNat_natCast, Nat.zero_add, setI1]
        refine ⟨⟨(j + 1, _), by show j + 1 ≤ m + 1; omega, th_step hjm hS⟩, by show m + 1 - (j + 1) < m + 1 - j; omega, Le.tl (Ls := [[(0, .sl 0 p m)]]) [] (by simp -dsimp -implicitDefEqProofs only [go_sem, seval, e3]) ?_ (by simp) (by simp [sg]) ⟨by simp -dsimp -implicitDefEqProofs only [go_sem, seval], trivial⟩⟩
        simp -dsimp -implicitDefEqProofs only [go_sem, seval]
        exact ⟨renL_cl rfl clA, renL_cl rfl ((clI _).2 trivial), renL_cl rfl (clB1 _), renL_cl rfl ((clI _).2 trivial)⟩
      have hjm : j = m + 1 := by omega
      subst hjm
      obtain ⟨hSl, hSj⟩ := hS
      refine AtFn.inl 400 [] mixed Try.func72 (by kernel_rfl) rfl (by rw [Try.results72]; rfl) (Nat.le_of_ble_eq_true rfl) ?_; rw [Try.ntmps72]
      simp -dsimp -implicitDefEqProofs only [go_sem, seval]
      refine ⟨{i : Nat // i ≤ m}, fun i => ⟨37, tl [(0, .sl 0 p m), (1, .sl 2 0 (m + 1)), (2, .sl 1 0 (m + 1)), (8, I (m : Nat)), (9, I i.1)], [(0, ⟨19, (pre ++ midI g m i.1 ++ post).map ArC⟩), (1, ⟨1, T.map fun n => [I n]⟩), (2, ⟨1, S.map fun n => [I n]⟩)], 3, ⟨[tl [], tl [(0, .sl 0 p m)]], some (.mp none)⟩⟩, fun i => m - i.1,
        ⟨⟨0, Nat.zero_le _⟩, Le.tl (Ls := [[], [(0, .sl 0 p m)]]) [(2, 3)] (by simp -dsimp -implicitDefEqProofs only [go_sem, seval]) ?_ (by simp) (by simp [sg]) ⟨by simp -dsimp -implicitDefEqProofs only [go_sem, seval], by simp -dsimp -implicitDefEqProofs only [go_sem, seval], trivial⟩⟩, fun i => ?_⟩
      · simp -dsimp -implicitDefEqProofs only [go_sem, seval]
        exact ⟨renL_cl2 hLA0 ((clArsL _).2 trivial), renL_cl rfl ((clI _).2 trivial), renL_cl rfl ((clI _).2 trivial)⟩
      obtain ⟨i, hi⟩ := i
      simp -dsimp -implicitDefEqProofs only [go_sem, seval]
      refine ⟨fun h12 => ?_, fun h12 => ?_⟩
      · have him : i < m := by omega
        have e4 : wr (((i : Nat) : Int) + 1) = ((i + 1 : Nat) : Int) := by rw [wr_in] <;> omega
        have ci : ((i : Nat) : Int) < ((m : Nat) : Int) := by omega
        have ci2 : ((i : Nat) : Int) < ((m + 1 : Nat) : Int) := by omega
        have ci3 : ((i + 1 : Nat) : Int) < ((m + 1 : Nat) : Int) := by omega
        have gM := getMid pre post (g := g) him
        rw [← hp] at gM
        have gSi := getI1 (D := S) (i := i) (by omega)
        rw [hSj i (by omega)] at gSi
        have gSi1 := getI1 (D := S) (i := i + 1) (by omega)
        rw [hSj (i + 1) (by omega)] at gSi1
        have gTi1 := getI1 (D := T) (i := i + 1) (by omega)
        rw [hTe (i + 1) (by omega)] at gTi1
        have bt := turn_b g m (i + 1)
        have ntt : wr (0 - turnF g m (i + 1)) = -(turnF g m (i + 1)) := by rw [wr_in (by omega) (by omega)]; omega
        have hst := setMid pre post (g := g) him
        rw [← hp] at hst
        have gset : ∀ X, (((pre ++ midI g m i ++ post).map ArC).set (p + i) X)[p + i]? = some X := fun X => by
          rw [List.getElem?_set_self (by have := (List.getElem?_eq_some_iff.1 gM).1; exact this)]
        refine AtCode.drawB 22 [([], []), ([], []), ([], [0]), ([], [0]), ([], []), ([], []), ([4, 5], []), ([4, 5, 6], []), ([], []), ([], []), ([9], []), ([8, 9, 10], []), ([8, 9, 10, 11], []), ([8, 9, 10, 11, 12], [0]), ([], []), ([], []), ([15], []), ([14, 15, 16], []), ([14, 15, 16, 17], []), ([8, 9, 10, 11, 12, 13, 14, 15, 16, 17, 18], [0]), ([0, 1, 4, 5, 6, 7, 8, 9, 10, 11, 12, 14, 15, 16, 17, 18], []), ([0, 1, 4, 5, 6, 7, 8, 9, 10, 11, 12, 14, 15, 16, 17, 18, 20], []), ([0, 1, 4, 5, 6, 7, 8, 9, 10, 11, 12, 14, 15, 16, 17, 18, 20, 21], []), ([0, 1, 2, 3, 4, 5, 6, 7, 8, 9, 10, 11, 12, 13, 14, 15, 16, 17, 18, 19, 20, 21, 22], []), ([0, 1, 2, 3, 4, 5, 6, 7, 8, 9, 10, 11, 12, 13, 14, 15, 16, 17, 18, 19, 20, 21, 22, 23], []), ([0, 1, 2, 3, 4, 5, 6, 7, 8, 9, 10, 11, 12, 13, 14, 15, 16, 17, 18, 19, 20, 21, 22, 23, 24], [])] [false, true, true, true] (by kernel_rfl) ?_
        simp -dsimp -implicitDefEqProofs only [go_sem, seval, gM, gset, gSi, gSi1, gTi1, ntt, e4, ci, ci2, ci3, Int.natCast_nonneg, Int.toNat_natCast, Nat.zero_add, List.set_set]
        refine ⟨by kernel_rfl, ?_⟩
        refine ⟨⟨i + 1, by omega⟩, by show m - (i + 1) < m - i; omega, Le.tl (Ls := [[], [(0, .sl 0 p m)]]) [] (by simp -dsimp -implicitDefEqProofs only [go_sem, seval, e4]) ?_ (by simp) (by simp [sg]) ⟨by simp -dsimp -implicitDefEqProofs only [go_sem, seval], by simp -dsimp -implicitDefEqProofs only [go_sem, seval], trivial⟩⟩
        simp -dsimp -implicitDefEqProofs only [go_sem, seval]
        exact ⟨renL_cl2 hst ((clArsL _).2 trivial), renL_cl rfl ((clI _).2 trivial), renL_cl rfl ((clI _).2 trivial)⟩
      have him : m = i := by omega
      subst him
      have hne0 : LA ≠ [] := by intro e; rw [e] at hlen; simp at hlen; omega
      have hne1 : (pre ++ midI g m m ++ post).map ArC ≠ [] := by intro e; have := congrArg List.length e; simp [mid_len] at this; omega
      refine FinM2.mkv [] [(0, .sl 0 p m)] ?_ ?_ ?_ ?_ ?_
      · simp -dsimp -implicitDefEqProofs only [go_sem, seval]
        exact renL_cl rfl ((clArsL _).2 trivial)
      · simp
      · simp [sg]
      · simp -dsimp -implicitDefEqProofs only [go_sem, seval]
      · simp only [List.mem_singleton, forall_eq]
        exact ⟨0, p, m - 1, _, _, by rw [Nat.sub_add_cancel hm]; rfl, by rw [Nat.sub_add_cancel hm]; simp -dsimp -implicitDefEqProofs only [go_sem, seval], rfl, rfl, rfl, hne0, hne1⟩
    · rw [hrm0 hb1] at hRRm
      have hcu2 := curl75 (g (m - 1)).b.v (g (m - 1)).b.t (g (m - 1)).a.t ol.bv ol.bt ol.at_
      simp -dsimp -implicitDefEqProofs only [go_sem, seval, gl, hb1]
      refine AtCode.drawB 21 [([], []), ([0], []), ([0, 1], []), ([0, 1, 2], []), ([0, 1, 2, 3], []), ([], []), ([5], []), ([5, 6], []), ([5, 6, 7], []), ([5, 6, 7, 8], []), ([], []), ([10], []), ([10, 11], []), ([10, 11, 12], []), ([10, 11, 12, 13], []), ([0, 1, 2, 3, 4, 5, 6, 7, 8, 9, 10, 11, 12, 13, 14], []), ([0, 1, 2, 3, 4, 5, 6, 7, 8, 9, 10, 11, 12, 13, 14, 15], []), ([0, 1, 2, 3, 4, 5, 6, 7, 8, 9, 10, 11, 12, 13, 14, 15, 16], []), ([0, 1, 2, 3, 4, 5, 6, 7, 8, 9, 10, 11, 12, 13, 14, 15, 16], [60]), ([], []), ([], []), ([0, 1, 2, 3, 4, 5, 6, 7, 8, 9, 10, 11, 12, 13, 14, 15, 16, 17, 19, 20], []), ([0, 1, 2, 3, 4, 5, 6, 7, 8, 9, 10, 11, 12, 13, 14, 15, 16, 17, 18, 19, 20, 21], [])] [false, true] (by kernel_rfl) ?_
      simp -dsimp -implicitDefEqProofs only [go_sem, seval, gl, Nat.add_zero]
      refine QFn.use _ hcu2 (by simp -dsimp -implicitDefEqProofs only [go_sem, seval]) ?_
      simp -dsimp -implicitDefEqProofs only [go_sem, seval]
      refine ⟨by kernel_rfl, ?_⟩
      refine AtCode.drawB 8 [([], []), ([], []), ([], [2]), ([], [2]), ([], []), ([], [2]), ([0, 1, 4], []), ([0, 1, 4, 6], []), ([0, 1, 4, 6, 7], []), ([0, 1, 2, 3, 4, 5, 6, 7, 8], []), ([0, 1, 2, 3, 4, 5, 6, 7, 8, 9], []), ([0, 1, 2, 3, 4, 5, 6, 7, 8, 9, 10], [])] [false, true, true, true] (by kernel_rfl) ?_
      simp -dsimp -implicitDefEqProofs only [go_sem, seval, gsm, gss, cm, Nat.add_zero, Nat.zero_add, Int.le_refl, List.set_set, Int.natCast_nonneg, Int.toNat_natCast]
      refine ⟨by kernel_rfl, ?_⟩
      refine AtFn.le ⟨250, tl [(0, .sl 0 p m), (2, I (m : Nat)), (5, .sl 1 0 (m + 1)), (7, .sl 2 0 (m + 1)), (223, .sl 2 0 (m + 1))], [(0, ⟨19, LA⟩), (1, ⟨1, T.map fun n => [I n]⟩), (2, ⟨10, RR.map RwC⟩)], 3, ⟨[tl [(0, .sl 0 p m)]], some (.mp none)⟩⟩ [.sl 2 0 (m + 1)] (Le.tl (Ls := [[(0, .sl 0 p m)]]) [] (by simp -dsimp -implicitDefEqProofs only [go_sem, seval]) (by simp -dsimp -implicitDefEqProofs only [go_sem, seval]; exact ⟨renL_cl rfl clA, renL_cl rfl ((clI _).2 trivial), renL_cl2 (by rw [hRRm]; rfl) ((clRwL _).2 trivial)⟩) (by simp) (by simp [sg]) ⟨by simp -dsimp -implicitDefEqProofs only [go_sem, seval], trivial⟩) (by intro fo xs ts h; cases h; exact ⟨by simp -dsimp -implicitDefEqProofs only [go_sem, seval], by simp -dsimp -implicitDefEqProofs only [go_sem, seval]⟩) ?_
      refine AtFn.pure hel ?_
      simp -dsimp -implicitDefEqProofs only [go_sem, seval, List.length_map, hRRl, tRR, w1, c3, Nat.zero_add, Nat.le_refl, Int.natCast_nonneg, Int.toNat_natCast, Int.le_refl]
      refine ⟨{q : Nat × List Int // q.1 ≤ m + 1 ∧ ThI g m q.1 q.2}, fun q => ⟨250, tl [(0, .sl 0 p m), (5, .sl 1 0 (m + 1)), (13, P2s (xs (rowF g m) (m + 1))), (14, .ptr 2 0 0), (15, .sl 3 0 (m + 1)), (231, I ((m + 1 : Nat) : Int)), (232, I q.1.1)], [(0, ⟨19, LA⟩), (1, ⟨1, T.map fun n => [I n]⟩), (2, ⟨2, [BigC (qE (rowF g m) (m + 1))]⟩), (3, ⟨1, q.1.2.map fun n => [I n]⟩)], 4, ⟨[tl [(0, .sl 0 p m)]], some (.mp none)⟩⟩, fun q => m + 1 - q.1.1,
        ⟨⟨(0, List.replicate (m + 1) 0), Nat.zero_le _, by simp, fun j hj => absurd hj (Nat.not_lt_zero _)⟩, Le.tl (Ls := [[(0, .sl 0 p m)]]) [(2, 3), (3, 4)] (by simp -dsimp -implicitDefEqProofs only [go_sem, seval]) ?_ (by simp) (by simp [sg]) ⟨by simp -dsimp -implicitDefEqProofs only [go_sem, seval], trivial⟩⟩, fun q => ?_⟩
      · simp -dsimp -implicitDefEqProofs only [go_sem, seval]
        exact ⟨renL_cl rfl clA, renL_cl rfl ((clI _).2 trivial), renL_cl rfl (clB1 _), renL_cl2 (by rw [List.map_replicate]) ((clI _).2 trivial)⟩
      obtain ⟨⟨j, S⟩, hj, hS⟩ := q
      simp only at hj hS
      simp -dsimp -implicitDefEqProofs only [go_sem, seval]
      refine ⟨fun h11 => ?_, fun h11 => ?_⟩
      · have hjm : j < m + 1 := by omega
        have e3 : wr (((j : Nat) : Int) + 1) = ((j + 1 : Nat) : Int) := by rw [wr_in] <;> omega
        have cj : ((j : Nat) : Int) < ((m + 1 : Nat) : Int) := by omega
        have gX := getXs (f := rowF g m) (n := m + 1) hjm
        have gS := getI1 (D := S) (i := j) (by rw [hS.1]; omega)
        have hro := hrd j hjm
        refine AtCode.draw 10 [([], []), ([], []), ([], []), ([], []), ([2, 3], []), ([2, 3, 4], []), ([2, 3, 4, 5], []), ([], []), ([2, 3, 4, 5, 6, 7], []), ([0, 1, 2, 3, 4, 5, 6, 7, 8], []), ([0, 1, 2, 3, 4, 5, 6, 7, 8, 9], [])] (by kernel_rfl) ?_
        simp -dsimp -implicitDefEqProofs only [go_sem, seval, gX, cj, Int.natCast_nonneg, Int.toNat_natCast, Nat.zero_add, show (0 : Int) ≤ 0 by decide, show (0 : Int) < 2 by decide]
        refine QFn.use _ hro (by simp -dsimp -implicitDefEqProofs only [go_sem, seval]) ?_
        simp -dsimp -implicitDefEqProofs only [go_sem, seval, gS, cj, e3, Int.natCast_nonneg, Int.toNat_natCast, Nat.zero_add, setI1]
        refine ⟨⟨(j + 1, _), by show j + 1 ≤ m + 1; omega, th_step hjm hS⟩, by show m + 1 - (j + 1) < m + 1 - j; omega, Le.tl (Ls := [[(0, .sl 0 p m)]]) [] (by simp -dsimp -implicitDefEqProofs only [go_sem, seval, e3]) ?_ (by simp) (by simp [sg]) ⟨by simp -dsimp -implicitDefEqProofs only [go_sem, seval], trivial⟩⟩
        simp -dsimp -implicitDefEqProofs only [go_sem, seval]
        exact ⟨renL_cl rfl clA, renL_cl rfl ((clI _).2 trivial), renL_cl rfl (clB1 _), renL_cl rfl ((clI _).2 trivial)⟩
      have hjm : j = m + 1 := by omega
      subst hjm
      obtain ⟨hSl, hSj⟩ := hS
      refine AtFn.inl 400 [] mixed Try.func72 (by kernel_rfl) rfl (by rw [Try.results72]; rfl) (Nat.le_of_ble_eq_true rfl) ?_; rw [Try.ntmps72]
      simp -dsimp -implicitDefEqProofs only [go_sem, seval]
      refine ⟨{i : Nat // i ≤ m}, fun i => ⟨37, tl [(0, .sl 0 p m), (1, .sl 2 0 (m + 1)), (2, .sl 1 0 (m + 1)), (8, I (m : Nat)), (9, I i.1)], [(0, ⟨19, (pre ++ midI g m i.1 ++ post).map ArC⟩), (1, ⟨1, T.map fun n => [I n]⟩), (2, ⟨1, S.map fun n => [I n]⟩)], 3, ⟨[tl [], tl [(0, .sl 0 p m)]], some (.mp none)⟩⟩, fun i => m - i.1,
        ⟨⟨0, Nat.zero_le _⟩, Le.tl (Ls := [[], [(0, .sl 0 p m)]]) [(2, 3)] (by simp -dsimp -implicitDefEqProofs only [go_sem, seval]) ?_ (by simp) (by simp [sg]) ⟨by simp -dsimp -implicitDefEqProofs only [go_sem, seval], by simp -dsimp -implicitDefEqProofs only [go_sem, seval], trivial⟩⟩, fun i => ?_⟩
      · simp -dsimp -implicitDefEqProofs only [go_sem, seval]
        exact ⟨renL_cl2 hLA0 ((clArsL _).2 trivial), renL_cl rfl ((clI _).2 trivial), renL_cl rfl ((clI _).2 trivial)⟩
      obtain ⟨i, hi⟩ := i
      simp -dsimp -implicitDefEqProofs only [go_sem, seval]
      refine ⟨fun h12 => ?_, fun h12 => ?_⟩
      · have him : i < m := by omega
        have e4 : wr (((i : Nat) : Int) + 1) = ((i + 1 : Nat) : Int) := by rw [wr_in] <;> omega
        have ci : ((i : Nat) : Int) < ((m : Nat) : Int) := by omega
        have ci2 : ((i : Nat) : Int) < ((m + 1 : Nat) : Int) := by omega
        have ci3 : ((i + 1 : Nat) : Int) < ((m + 1 : Nat) : Int) := by omega
        have gM := getMid pre post (g := g) him
        rw [← hp] at gM
        have gSi := getI1 (D := S) (i := i) (by omega)
        rw [hSj i (by omega)] at gSi
        have gSi1 := getI1 (D := S) (i := i + 1) (by omega)
        rw [hSj (i + 1) (by omega)] at gSi1
        have gTi1 := getI1 (D := T) (i := i + 1) (by omega)
        rw [hTe (i + 1) (by omega)] at gTi1
        have bt := turn_b g m (i + 1)
        have ntt : wr (0 - turnF g m (i + 1)) = -(turnF g m (i + 1)) := by rw [wr_in (by omega) (by omega)]; omega
        have hst := setMid pre post (g := g) him
        rw [← hp] at hst
        have gset : ∀ X, (((pre ++ midI g m i ++ post).map ArC).set (p + i) X)[p + i]? = some X := fun X => by
          rw [List.getElem?_set_self (by have := (List.getElem?_eq_some_iff.1 gM).1; exact this)]
        refine AtCode.drawB 22 [([], []), ([], []), ([], [0]), ([], [0]), ([], []), ([], []), ([4, 5], []), ([4, 5, 6], []), ([], []), ([], []), ([9], []), ([8, 9, 10], []), ([8, 9, 10, 11], []), ([8, 9, 10, 11, 12], [0]), ([], []), ([], []), ([15], []), ([14, 15, 16], []), ([14, 15, 16, 17], []), ([8, 9, 10, 11, 12, 13, 14, 15, 16, 17, 18], [0]), ([0, 1, 4, 5, 6, 7, 8, 9, 10, 11, 12, 14, 15, 16, 17, 18], []), ([0, 1, 4, 5, 6, 7, 8, 9, 10, 11, 12, 14, 15, 16, 17, 18, 20], []), ([0, 1, 4, 5, 6, 7, 8, 9, 10, 11, 12, 14, 15, 16, 17, 18, 20, 21], []), ([0, 1, 2, 3, 4, 5, 6, 7, 8, 9, 10, 11, 12, 13, 14, 15, 16, 17, 18, 19, 20, 21, 22], []), ([0, 1, 2, 3, 4, 5, 6, 7, 8, 9, 10, 11, 12, 13, 14, 15, 16, 17, 18, 19, 20, 21, 22, 23], []), ([0, 1, 2, 3, 4, 5, 6, 7, 8, 9, 10, 11, 12, 13, 14, 15, 16, 17, 18, 19, 20, 21, 22, 23, 24], [])] [false, true, true, true] (by kernel_rfl) ?_
        simp -dsimp -implicitDefEqProofs only [go_sem, seval, gM, gset, gSi, gSi1, gTi1, ntt, e4, ci, ci2, ci3, Int.natCast_nonneg, Int.toNat_natCast, Nat.zero_add, List.set_set]
        refine ⟨by kernel_rfl, ?_⟩
        refine ⟨⟨i + 1, by omega⟩, by show m - (i + 1) < m - i; omega, Le.tl (Ls := [[], [(0, .sl 0 p m)]]) [] (by simp -dsimp -implicitDefEqProofs only [go_sem, seval, e4]) ?_ (by simp) (by simp [sg]) ⟨by simp -dsimp -implicitDefEqProofs only [go_sem, seval], by simp -dsimp -implicitDefEqProofs only [go_sem, seval], trivial⟩⟩
        simp -dsimp -implicitDefEqProofs only [go_sem, seval]
        exact ⟨renL_cl2 hst ((clArsL _).2 trivial), renL_cl rfl ((clI _).2 trivial), renL_cl rfl ((clI _).2 trivial)⟩
      have him : m = i := by omega
      subst him
      have hne0 : LA ≠ [] := by intro e; rw [e] at hlen; simp at hlen; omega
      have hne1 : (pre ++ midI g m m ++ post).map ArC ≠ [] := by intro e; have := congrArg List.length e; simp [mid_len] at this; omega
      refine FinM2.mkv [] [(0, .sl 0 p m)] ?_ ?_ ?_ ?_ ?_
      · simp -dsimp -implicitDefEqProofs only [go_sem, seval]
        exact renL_cl rfl ((clArsL _).2 trivial)
      · simp
      · simp [sg]
      · simp -dsimp -implicitDefEqProofs only [go_sem, seval]
      · simp only [List.mem_singleton, forall_eq]
        exact ⟨0, p, m - 1, _, _, by rw [Nat.sub_add_cancel hm]; rfl, by rw [Nat.sub_add_cancel hm]; simp -dsimp -implicitDefEqProofs only [go_sem, seval], rfl, rfl, rfl, hne0, hne1⟩
end

section
set_option maxRecDepth 20000
structure RwB (x : Rw) : Prop where
  a : bd 16 x.a
  m : bd 16 x.m
  e : bd 16 x.e
  r : bd 16 x.r
  s : bd 16 x.s
theorem bd_1 : bd 1 1 := by unfold bd; decide
theorem q_bd {f : Nat → Rw} {n : Nat} (h : ∀ k, k < n → RwB (f k)) : ∀ k, (k ≤ n → bd (17 * k + 1) (qE f k)) ∧ (k + 1 ≤ n → bd (17 * (k + 1) + 1) (qE f (k + 1)))
  | 0 => ⟨fun _ => bd_1, fun hk => bd_mono (bd_mul (h 0 hk).m bd_1) (by omega)⟩
  | k + 1 => by
    have ih := q_bd h k
    refine ⟨ih.2, fun hk => ?_⟩
    have h1 := bd_mul (h (k + 1) (by omega)).m (ih.2 (by omega))
    have h2 := bd_mul (h (k + 1) (by omega)).a (bd_mul (h k (by omega)).e (ih.1 (by omega)))
    exact bd_mono (bd_sub (bd_mono h1 (show _ ≤ 17 * k + 34 by omega)) (bd_mono h2 (by omega))) (by omega)
theorem p_bd {f : Nat → Rw} {n : Nat} (h : ∀ k, k < n → RwB (f k)) {k : Nat} (hk : k < n) : bd (17 * k + 17) (pE f k) :=
  bd_mono (bd_mul (h k hk).e ((q_bd h k).1 (by omega))) (by omega)
theorem n_bd {f : Nat → Rw} {n : Nat} (h : ∀ k, k < n → RwB (f k)) (g : Rw → Int) (hg : ∀ k, k < n → bd 16 (g (f k))) : ∀ k, k < n → bd (17 * k + 18) (nE f g k)
  | 0, hk => bd_mono (bd_mul (hg 0 hk) ((q_bd h 0).1 (by omega))) (by omega)
  | k + 1, hk => by
    have ih := n_bd h g hg k (by omega)
    have h1 := bd_mul (hg (k + 1) hk) ((q_bd h (k + 1)).1 (by omega))
    have h2 := bd_mul (h (k + 1) hk).a ih
    exact bd_mono (bd_sub (bd_mono h1 (show _ ≤ 17 * k + 34 by omega)) (bd_mono h2 (by omega))) (by omega)
theorem x_bd {f : Nat → Rw} {n : Nat} (h : ∀ k, k < n → RwB (f k)) (g : Rw → Int) (hg : ∀ k, k < n → bd 16 (g (f k))) (hp : ∀ k, k ≤ n → 0 < qE f k) (h1 : 1 ≤ n) : ∀ j, j < n → bd ((j + 2) * (17 * n + 2)) (xB f g n j)
  | 0, _ => bd_mono (n_bd h g hg (n - 1) (by omega)) (by omega)
  | j + 1, hj => by
    have ih := x_bd h g hg hp h1 j (by omega)
    have e1 := n_bd h g hg (n - 2 - j) (by omega)
    have e2 := (q_bd h n).1 (Nat.le_refl _)
    have e3 := p_bd h (show n - 2 - j < n by omega)
    have m1 := bd_mono (bd_mul e1 e2) (show 17 * (n - 2 - j) + 18 + (17 * n + 1) ≤ (j + 2) * (17 * n + 2) + (17 * n + 1) by
      have : 2 * (17 * n + 2) ≤ (j + 2) * (17 * n + 2) := Nat.mul_le_mul_right _ (by omega)
      omega)
    have m2 := bd_mono (bd_mul e3 ih) (show 17 * (n - 2 - j) + 17 + (j + 2) * (17 * n + 2) ≤ (j + 2) * (17 * n + 2) + (17 * n + 1) by omega)
    have s1 := bd_sub m1 m2
    have q0 := hp (n - 1 - j) (by omega)
    exact bd_mono (bd_div s1 q0) (by rw [show j + 1 + 2 = (j + 2) + 1 from rfl, Nat.succ_mul (j + 2)]; omega)
def KE (n : Nat) : Nat := (n + 2) * (17 * n + 2)
theorem elB_of {f : Nat → Rw} {n : Nat} (h1 : 1 ≤ n) (h2 : n ≤ 300) (h : ∀ k, k < n → RwB (f k)) (hp : ∀ k, k ≤ n → 0 < qE f k) : ElB f n (KE n) := by
  have k0 : KE n ≤ 302 * 5102 := Nat.mul_le_mul (by omega) (by omega)
  have k1 : 3 * (17 * n + 2) ≤ KE n := Nat.mul_le_mul_right _ (by omega)
  have kx : ∀ j, j < n → (j + 2) * (17 * n + 2) ≤ KE n := fun j hj => Nat.mul_le_mul_right _ (by omega)
  refine ⟨by omega, h1, by omega, fun k hk => bd_mono (h k hk).a (by omega), fun k hk => bd_mono (h k hk).m (by omega), fun k hk => bd_mono (h k hk).e (by omega), fun k hk => bd_mono (h k hk).r (by omega), fun k hk => bd_mono (h k hk).s (by omega),
    fun k hk => bd_mono ((q_bd h k).1 hk) (by omega), fun k hk => bd_mono (p_bd h hk) (by omega), fun k hk => bd_mono (n_bd h Rw.r (fun k hk => (h k hk).r) k hk) (by omega), fun k hk => bd_mono (n_bd h Rw.s (fun k hk => (h k hk).s) k hk) (by omega), fun k hk => ?_, fun k hk => ?_, hp⟩
  · exact bd_mono (x_bd h Rw.r (fun k hk => (h k hk).r) hp h1 (n - 1 - k) (by omega)) (kx _ (by omega))
  · exact bd_mono (x_bd h Rw.s (fun k hk => (h k hk).s) hp h1 (n - 1 - k) (by omega)) (kx _ (by omega))
theorem in_dom {a b c e q p A D : Int} (ha : 0 < a) (hc : 0 < c) (he : 0 < e) (_hA : 65536 < A) (hD : 65536 < D) (hb : 65536 * b = A * a) (hce : 65536 * c = D * e) (hq : 0 < q) (hJ : 65536 * p < A * q) :
    0 < (b + c) * q - a * p ∧ D * (e * q) ≤ 65536 * ((b + c) * q - a * p) ∧ e * q < (b + c) * q - a * p := by
  have h1 := Int.mul_lt_mul_of_pos_left hJ ha
  have h2 : 65536 * b * q = A * a * q := by rw [hb]
  have h3 : a * p < b * q := by grind
  have h4 := Int.mul_pos hc hq
  have h5 : 65536 * c * q = D * e * q := by rw [hce]
  have h6 : 65536 * e < D * e := Int.mul_lt_mul_of_pos_right hD he
  have h7 : e < c := by omega
  have h8 := Int.mul_lt_mul_of_pos_right h7 hq
  refine ⟨by grind, by grind, by grind⟩
theorem lt_mulA {x y A : Int} (h0 : 0 ≤ x) (h : x < y) (_hA : 65536 < A) : 65536 * x < A * y := by
  have h1 : 65536 * y ≤ A * y := Int.mul_le_mul_of_nonneg_right (by omega) (by omega)
  omega
theorem curl_dom {w s t : Int} (hw : 0 ≤ w) (hs : 49152 ≤ s) (ht : 49152 ≤ t) : 0 < curF w s t ∧ 0 < curG w s t ∧ 65536 * curG w s t < (3 * s - 65536) * curF w s t := by
  have t3 := Int.mul_pos (Int.mul_pos (show 0 < t by omega) (show 0 < t by omega)) (show 0 < t by omega)
  have s3 := Int.mul_pos (Int.mul_pos (show 0 < s by omega) (show 0 < s by omega)) (show 0 < s by omega)
  have f1 := Int.mul_nonneg hw (Int.le_of_lt t3)
  have f2 : 0 < s * s * s * (3 * t - 65536) := Int.mul_pos s3 (by omega)
  have ef : curF w s t = 65536 * (w * (t * t * t) + s * s * s * (3 * t - 65536)) := by simp only [curF, prodZ]; grind
  have eg : curG w s t = (3 * s - 65536) * (w * (t * t * t)) + s * s * s * (65536 * 65536) := by simp only [curG, prodZ]; grind
  have g1 : 0 ≤ (3 * s - 65536) * (w * (t * t * t)) := Int.mul_nonneg (by omega) f1
  have k1 : 65536 * 65536 < (3 * s - 65536) * (3 * t - 65536) := by
    have h1 : 65536 * (3 * t - 65536) < (3 * s - 65536) * (3 * t - 65536) := Int.mul_lt_mul_of_pos_right (by omega) (by omega)
    omega
  have k2 := Int.mul_lt_mul_of_pos_left k1 s3
  refine ⟨by omega, by omega, ?_⟩
  rw [ef, eg]
  grind
theorem last_dom {w s t q p : Int} (hw : 0 ≤ w) (hs : 49152 ≤ s) (ht : 49152 ≤ t) (hq : 0 < q) (hJ : (3 * s - 65536) * p ≤ 65536 * q) : 0 < curF w s t * q - curG w s t * p := by
  obtain ⟨h1, h2, h3⟩ := curl_dom hw hs ht
  have e1 := Int.mul_le_mul_of_nonneg_left hJ (Int.le_of_lt h2)
  have e2 := Int.mul_lt_mul_of_pos_right h3 hq
  have e3 : (3 * s - 65536) * (curG w s t * p) < (3 * s - 65536) * (curF w s t * q) := by grind
  have := Int.lt_of_mul_lt_mul_left e3 (by omega)
  omega
structure okG (r : Ar) : Prop where
  a1 : 49152 ≤ r.a.t
  a2 : r.a.t ≤ 268435455
  b1 : 49152 ≤ r.b.t
  b2 : r.b.t ≤ 268435455
  av1 : -188743680 ≤ r.a.v
  av2 : r.a.v ≤ 268435455
  bv1 : -188743680 ≤ r.b.v
  bv2 : r.b.v ≤ 268435455
  ac : r.a.op ≠ 1 → 0 ≤ r.a.v
  bc : r.b.op ≠ 1 → 0 ≤ r.b.v
  far1 : 1 ≤ r.far
  far2 : r.far ≤ 1073741824
  d1 : -188743680 ≤ r.dir
  d2 : r.dir ≤ 188743680
theorem okG.ar {r : Ar} (h : okG r) : okAr r := by
  obtain ⟨a1, a2, b1, b2, v1, v2, v3, v4, _, _, f1, f2, d1, d2⟩ := h
  refine ⟨?_, ?_, ?_, ?_, ?_, ?_⟩ <;> (unfold sm; omega)
theorem inn_parts {x y : Ar} (p n : Int) (hx : okG x) (hy : okG y) : ∃ b c, (innW x y p n).m = b + c ∧ 0 < (innW x y p n).a ∧ 0 < c ∧ 0 < (innW x y p n).e ∧ 65536 * b = (3 * x.a.t - 65536) * (innW x y p n).a ∧ 65536 * c = (3 * y.b.t - 65536) * (innW x y p n).e := by
  obtain ⟨a1, a2, b1, b2, v1, v2, v3, v4, _, _, f1, f2, d1, d2⟩ := hx
  obtain ⟨c1, c2, e1, e2, v1', v2', v3', v4', _, _, g1, g2, d1', d2'⟩ := hy
  refine ⟨_, _, rfl, ?_, ?_, ?_, ?_, ?_⟩
  · simp only [innW, prodZ]
    have := Int.mul_pos (show 0 < y.b.t by omega) (show 0 < y.far * 1 by omega)
    exact Int.mul_pos (by omega) (Int.mul_pos (by omega) (Int.mul_pos (by omega) this))
  · simp only [prodZ]
    have := Int.mul_pos (show 0 < x.a.t by omega) (show 0 < x.far * 1 by omega)
    exact Int.mul_pos (by omega) (Int.mul_pos (by omega) (Int.mul_pos (by omega) this))
  · simp only [innW, prodZ]
    have := Int.mul_pos (show 0 < x.a.t by omega) (show 0 < x.far * 1 by omega)
    exact Int.mul_pos (by omega) (Int.mul_pos (by omega) (Int.mul_pos (by omega) this))
  · simp only [innW, prodZ]; grind
  · simp only [innW, prodZ]; grind
theorem inn_B {x y : Ar} {p n : Int} (hx : okG x) (hy : okG y) (hp : -188743680 ≤ p ∧ p ≤ 188743680) (hn : -188743680 ≤ n ∧ n ≤ 188743680) : RwB (innW x y p n) := by
  obtain ⟨a1, a2, b1, b2, v1, v2, v3, v4, _, _, f1, f2, d1, d2⟩ := hx
  obtain ⟨c1, c2, e1, e2, v1', v2', v3', v4', _, _, g1, g2, d1', d2'⟩ := hy
  have i1 : in63 x.a.t := ⟨by omega, by omega⟩
  have i2 : in63 x.b.t := ⟨by omega, by omega⟩
  have i3 : in63 y.a.t := ⟨by omega, by omega⟩
  have i4 : in63 y.b.t := ⟨by omega, by omega⟩
  have i5 : in63 x.far := ⟨by omega, by omega⟩
  have i6 : in63 y.far := ⟨by omega, by omega⟩
  have i7 : in63 65536 := ⟨by omega, by omega⟩
  have i8 : in63 (3 * x.a.t - 65536) := ⟨by omega, by omega⟩
  have i9 : in63 (3 * y.b.t - 65536) := ⟨by omega, by omega⟩
  have five : ∀ {a b c d e : Int}, in63 a → in63 b → in63 c → in63 d → in63 e → bd 11 (prodZ [a, b, c, d, e]) := by
    intro a b c d e h1 h2 h3 h4 h5
    exact bd_prod (l := [a, b, c, d, e]) (by intro n hn; simp only [List.mem_cons, List.not_mem_nil, or_false] at hn; rcases hn with rfl | rfl | rfl | rfl | rfl <;> assumption)
  have B := five i8 i2 i2 i4 i6
  have C := five i9 i3 i3 i1 i5
  have E := five i3 i3 i7 i1 i5
  have A := five i2 i2 i7 i4 i6
  have bp := bd_int (x := p) (by omega) (by omega)
  have bn := bd_int (x := n) (by omega) (by omega)
  exact ⟨bd_mono A (by omega), bd_mono (bd_add B C) (by omega), bd_mono E (by omega), bd_mono (bd_neg (bd_add (bd_mul B bp) (bd_mul E bn))) (by omega), by unfold bd; show ((0 : Int).natAbs : Int) < _; decide⟩
theorem bd_0 (k : Nat) : bd k 0 := by unfold bd; exact pow_pos3 k
theorem row_B {g : Nat → Ar} {m : Nat} (hm : 1 ≤ m) (hok : ∀ k, k < m → okG (g k)) : ∀ k, k < m + 1 → RwB (rowF g m k) := by
  intro k hk
  have cF : ∀ {w s t : Int}, sm w → sm s → sm t → bd 13 (curF w s t) ∧ bd 13 (curG w s t) := by
    intro w s t hw hs ht
    unfold sm at hw hs ht
    have five : ∀ {a b c d e : Int}, in63 a → in63 b → in63 c → in63 d → in63 e → bd 11 (prodZ [a, b, c, d, e]) := by
      intro a b c d e h1 h2 h3 h4 h5
      exact bd_prod (l := [a, b, c, d, e]) (by intro n hn; simp only [List.mem_cons, List.not_mem_nil, or_false] at hn; rcases hn with rfl | rfl | rfl | rfl | rfl <;> assumption)
    have iw : in63 w := ⟨by omega, by omega⟩
    have is : in63 s := ⟨by omega, by omega⟩
    have it : in63 t := ⟨by omega, by omega⟩
    have iu : in63 65536 := ⟨by omega, by omega⟩
    have iv : in63 196608 := ⟨by omega, by omega⟩
    have ic : in63 (3 * s - 65536) := ⟨by omega, by omega⟩
    exact ⟨bd_sub (bd_add (five iw it it it iu) (five iv is is is it)) (bd_mono (five is is is iu iu) (by omega)), bd_mono (bd_add (five iw ic it it it) (five is is is iu iu)) (by omega)⟩
  have o1 : bd 16 1 := bd_mono bd_1 (by omega)
  have o0 := bd_0 16
  unfold rowF
  by_cases k0 : k = 0
  · rw [if_pos k0]
    have h0 := (hok 0 (by omega)).ar
    have t1 := turn_b g m 1
    split
    · have := red_b ((g 0).a.v - (g 0).dir)
      exact ⟨o0, o1, o0, bd_mono (bd_int (x := redW ((g 0).a.v - (g 0).dir)) (by omega) (by omega)) (by omega), o0⟩
    · have c := cF h0.av h0.at_ h0.bt
      have bn := bd_int (x := -(turnF g m 1)) (by omega) (by omega)
      exact ⟨o0, bd_mono c.1 (by omega), bd_mono c.2 (by omega), bd_mono (bd_mul c.2 bn) (by omega), o0⟩
  · rw [if_neg k0]
    by_cases k1 : k < m
    · rw [if_pos k1]
      have t1 := turn_b g m k
      have t2 := turn_b g m (k + 1)
      exact inn_B (hok _ (by omega)) (hok _ k1) t1 t2
    · rw [if_neg k1, if_pos (by omega)]
      have h0 := (hok (m - 1) (by omega)).ar
      split
      · have := red_b ((g (m - 1)).dir - (g (m - 1)).b.v)
        exact ⟨o0, o1, o0, bd_mono (bd_int (x := -(redW ((g (m - 1)).dir - (g (m - 1)).b.v))) (by omega) (by omega)) (by omega), o0⟩
      · have c := cF h0.bv h0.bt h0.at_
        exact ⟨bd_mono c.2 (by omega), bd_mono c.1 (by omega), o0, o0, o0⟩
theorem row_dom {g : Nat → Ar} {m : Nat} (hm : 1 ≤ m) (hok : ∀ k, k < m → okG (g k)) : ∀ k, k < m →
    0 < qE (rowF g m) (k + 1) ∧ 65536 * pE (rowF g m) k < (3 * (g k).a.t - 65536) * qE (rowF g m) (k + 1) ∧ ((1 ≤ k ∨ (g 0).a.op = 1) → (3 * (g k).b.t - 65536) * pE (rowF g m) k ≤ 65536 * qE (rowF g m) (k + 1))
  | 0, hk => by
    have h0 := hok 0 hk
    by_cases h1 : (g 0).a.op = 1
    · have e : rowF g m 0 = ⟨0, 1, 0, redW ((g 0).a.v - (g 0).dir), 0⟩ := by unfold rowF; rw [if_pos rfl, if_pos h1]
      simp only [qE, pE, e]
      have := h0.a1
      refine ⟨by omega, by omega, fun _ => by omega⟩
    · have e : rowF g m 0 = ⟨0, curF (g 0).a.v (g 0).a.t (g 0).b.t, curG (g 0).a.v (g 0).a.t (g 0).b.t, curG (g 0).a.v (g 0).a.t (g 0).b.t * -(turnF g m 1), 0⟩ := by unfold rowF; rw [if_pos rfl, if_neg h1]
      have c := curl_dom (h0.ac h1) h0.a1 h0.b1
      simp only [qE, pE, e, Int.mul_one]
      exact ⟨c.1, c.2.2, fun h => absurd h (by omega)⟩
  | k + 1, hk => by
    have ih := row_dom hm hok k (by omega)
    have hx := hok k (by omega)
    have hy := hok (k + 1) hk
    have e : rowF g m (k + 1) = innW (g k) (g (k + 1)) (turnF g m (k + 1)) (turnF g m (k + 1 + 1)) := by unfold rowF; rw [if_neg (by omega), if_pos hk]; rfl
    obtain ⟨b, c, em, ha, hc, he, hb, hce⟩ := inn_parts (turnF g m (k + 1)) (turnF g m (k + 1 + 1)) hx hy
    rw [← e] at em ha he hb hce
    have x1 := hx.a1
    have y1 := hy.b1
    have y2 := hy.a1
    have D := in_dom ha hc he (show 65536 < 3 * (g k).a.t - 65536 by omega) (show 65536 < 3 * (g (k + 1)).b.t - 65536 by omega) hb hce ih.1 ih.2.1
    have eq : qE (rowF g m) (k + 1 + 1) = (b + c) * qE (rowF g m) (k + 1) - (rowF g m (k + 1)).a * pE (rowF g m) k := by simp only [qE, pE]; rw [em]
    have ep : pE (rowF g m) (k + 1) = (rowF g m (k + 1)).e * qE (rowF g m) (k + 1) := rfl
    rw [eq, ep]
    have hp := Int.mul_pos he ih.1
    exact ⟨D.1, lt_mulA (by omega) D.2.2 (by omega), fun _ => D.2.1⟩
theorem row_pos {g : Nat → Ar} {m : Nat} (hm : 1 ≤ m) (hok : ∀ k, k < m → okG (g k)) (hno : ¬ (m = 1 ∧ (g 0).a.op ≠ 1 ∧ (g 0).b.op ≠ 1)) : ∀ k, k ≤ m + 1 → 0 < qE (rowF g m) k := by
  intro k hk
  match k with
  | 0 => exact Int.zero_lt_one
  | k + 1 =>
    by_cases hkm : k < m
    · exact (row_dom hm hok k hkm).1
    · have hkm : k = m := by omega
      subst hkm
      obtain ⟨j, rfl⟩ : ∃ j, k = j + 1 := ⟨k - 1, by omega⟩
      have D := row_dom hm hok j (by omega)
      have hj := hok j (by omega)
      have eq : qE (rowF g (j + 1)) (j + 1 + 1) = (rowF g (j + 1) (j + 1)).m * qE (rowF g (j + 1)) (j + 1) - (rowF g (j + 1) (j + 1)).a * pE (rowF g (j + 1)) j := rfl
      rw [eq]
      by_cases h1 : (g j).b.op = 1
      · have e : rowF g (j + 1) (j + 1) = ⟨0, 1, 0, -(redW ((g j).dir - (g j).b.v)), 0⟩ := by unfold rowF; rw [if_neg (by omega), if_neg (by omega), if_pos rfl]; simp only [Nat.add_sub_cancel]; rw [if_pos h1]
        rw [e]
        have := D.1
        simp only
        omega
      · have e : rowF g (j + 1) (j + 1) = ⟨curG (g j).b.v (g j).b.t (g j).a.t, curF (g j).b.v (g j).b.t (g j).a.t, 0, 0, 0⟩ := by unfold rowF; rw [if_neg (by omega), if_neg (by omega), if_pos rfl]; simp only [Nat.add_sub_cancel]; rw [if_neg h1]
        rw [e]
        refine last_dom (hj.bc h1) hj.b1 hj.a1 D.1 (D.2.2 ?_)
        by_cases hj0 : 1 ≤ j
        · exact .inl hj0
        · have : j = 0 := by omega
          subst this
          refine .inr (Decidable.byContradiction fun h => hno ⟨rfl, h, h1⟩)
theorem row_ElB {g : Nat → Ar} {m : Nat} (hm : 1 ≤ m) (hm2 : m ≤ 299) (hok : ∀ k, k < m → okG (g k)) (hno : ¬ (m = 1 ∧ (g 0).a.op ≠ 1 ∧ (g 0).b.op ≠ 1)) : ElB (rowF g m) (m + 1) (KE (m + 1)) :=
  elB_of (by omega) (by omega) (row_B hm hok) (row_pos hm hok hno)
structure DomF (f : Nat → Rw) (n : Nat) : Prop where
  a : ∀ k, k < n → 0 < (f k).a
  e : ∀ k, k < n → 0 < (f k).e
  m : ∀ k, k < n → (f k).a + (f k).e < (f k).m
  s1 : ∀ k, k < n → -((if k = 0 then (f k).a else 0) + (if k + 1 = n then (f k).e else 0)) ≤ (f k).s
  s2 : ∀ k, k < n → (f k).s ≤ (if k = 0 then (f k).a else 0) + (if k + 1 = n then (f k).e else 0)
theorem dom_q {f : Nat → Rw} {n : Nat} (h : DomF f n) : ∀ k, k < n → 0 < qE f (k + 1) ∧ 0 < pE f k ∧ pE f k < qE f (k + 1)
  | 0, hk => by
    have := h.a 0 hk; have := h.e 0 hk; have := h.m 0 hk
    simp only [qE, pE, Int.mul_one]; omega
  | k + 1, hk => by
    have ih := dom_q h k (by omega)
    have h1 := h.a (k + 1) hk; have h2 := h.e (k + 1) hk; have h3 := h.m (k + 1) hk
    have eq : qE f (k + 1 + 1) = (f (k + 1)).m * qE f (k + 1) - (f (k + 1)).a * pE f k := rfl
    have ep : pE f (k + 1) = (f (k + 1)).e * qE f (k + 1) := rfl
    have m1 := Int.mul_lt_mul_of_pos_left ih.2.2 h1
    have m2 := Int.mul_lt_mul_of_pos_right h3 ih.1
    have m3 := Int.mul_pos h2 ih.1
    rw [eq, ep]
    refine ⟨by grind, m3, by grind⟩
theorem dom_n {f : Nat → Rw} {n : Nat} (h : DomF f n) : ∀ k, k < n → -(qE f (k + 1) - (if k + 1 = n then 0 else pE f k)) ≤ nE f Rw.s k ∧ nE f Rw.s k ≤ qE f (k + 1) - (if k + 1 = n then 0 else pE f k)
  | 0, hk => by
    have := h.a 0 hk; have := h.e 0 hk; have := h.m 0 hk
    have s1 := h.s1 0 hk
    have s2 := h.s2 0 hk
    rw [if_pos rfl] at s1 s2
    simp only [qE, pE, nE, Int.mul_one]
    by_cases e : 0 + 1 = n
    · rw [if_pos e] at s1 s2 ⊢
      omega
    · rw [if_neg e] at s1 s2 ⊢
      omega
  | k + 1, hk => by
    have ih := dom_n h k (by omega)
    have iq := dom_q h k (by omega)
    rw [if_neg (by omega)] at ih
    have h1 := h.a (k + 1) hk; have h2 := h.e (k + 1) hk; have h3 := h.m (k + 1) hk
    have s1 := h.s1 (k + 1) hk
    have s2 := h.s2 (k + 1) hk
    rw [if_neg (by omega)] at s1 s2
    have eq : qE f (k + 1 + 1) = (f (k + 1)).m * qE f (k + 1) - (f (k + 1)).a * pE f k := rfl
    have ep : pE f (k + 1) = (f (k + 1)).e * qE f (k + 1) := rfl
    have en : nE f Rw.s (k + 1) = (f (k + 1)).s * qE f (k + 1) - (f (k + 1)).a * nE f Rw.s k := rfl
    have m1 := Int.mul_le_mul_of_nonneg_left ih.1 (Int.le_of_lt h1)
    have m2 := Int.mul_le_mul_of_nonneg_left ih.2 (Int.le_of_lt h1)
    have m3 := Int.mul_lt_mul_of_pos_right h3 iq.1
    have m4 := Int.mul_le_mul_of_nonneg_right s1 (Int.le_of_lt iq.1)
    have m5 := Int.mul_le_mul_of_nonneg_right s2 (Int.le_of_lt iq.1)
    rw [eq, ep, en]
    by_cases e : k + 1 + 1 = n
    · rw [if_pos e] at m4 m5 ⊢
      constructor <;> grind
    · rw [if_neg e] at m4 m5 ⊢
      constructor <;> grind
theorem dom_x {f : Nat → Rw} {n : Nat} (h : DomF f n) (hn : 1 ≤ n) : ∀ j, j < n → -(qE f n) ≤ xB f Rw.s n j ∧ xB f Rw.s n j ≤ qE f n
  | 0, _ => by
    have := dom_n h (n - 1) (by omega)
    rw [if_pos (by omega), show n - 1 + 1 = n by omega] at this
    simp only [xB]; omega
  | j + 1, hj => by
    have ih := dom_x h hn j (by omega)
    obtain ⟨k, hk⟩ : ∃ k, k = n - 2 - j := ⟨_, rfl⟩
    have e1 : n - 1 - j = k + 1 := by omega
    have e2 : xB f Rw.s n (j + 1) = (nE f Rw.s (n - 2 - j) * qE f n - pE f (n - 2 - j) * xB f Rw.s n j) / qE f (n - 1 - j) := rfl
    rw [e2, e1, ← hk]
    have dn := dom_n h k (by omega)
    rw [if_neg (by omega)] at dn
    have dq := dom_q h k (by omega)
    have dN := dom_q h (n - 1) (by omega)
    rw [show n - 1 + 1 = n by omega] at dN
    have m1 := Int.mul_le_mul_of_nonneg_right dn.1 (Int.le_of_lt dN.1)
    have m2 := Int.mul_le_mul_of_nonneg_right dn.2 (Int.le_of_lt dN.1)
    have m3 := Int.mul_le_mul_of_nonneg_left ih.1 (Int.le_of_lt dq.2.1)
    have m4 := Int.mul_le_mul_of_nonneg_left ih.2 (Int.le_of_lt dq.2.1)
    constructor
    · apply Int.le_ediv_of_mul_le dq.1
      grind
    · apply Int.ediv_le_of_le_mul dq.1
      grind
def turnC (g : Nat → Ar) (n j : Nat) : Int := if j = n then redW ((g 0).dir - (g (n - 1)).dir) else if j = 0 then redW ((g 0).dir - (g (n - 1)).dir) else redW ((g j).dir - (g (j - 1)).dir)
def rowC (g : Nat → Ar) (n k : Nat) : Rw := innW (g (if k = 0 then n - 1 else k - 1)) (g k) (turnC g n k) (turnC g n (k + 1))
def resF (g : Nat → Ar) (n k : Nat) : Rw := if k + 1 < n then ⟨(rowC g n (k + 1)).a, (rowC g n (k + 1)).m, (rowC g n (k + 1)).e, (rowC g n (k + 1)).r, (if k = 0 then -(rowC g n (k + 1)).a else 0) - (if k + 2 = n then (rowC g n (k + 1)).e else 0)⟩ else zRw
def upW (g : Nat → Ar) (n : Nat) : Int := (rowC g n 0).r * qE (resF g n) (n - 1) - (rowC g n 0).a * xE (resF g n) Rw.r (n - 1) (n - 2) - (rowC g n 0).e * xE (resF g n) Rw.r (n - 1) 0
def downW (g : Nat → Ar) (n : Nat) : Int := (rowC g n 0).m * qE (resF g n) (n - 1) + (rowC g n 0).a * xE (resF g n) Rw.s (n - 1) (n - 2) + (rowC g n 0).e * xE (resF g n) Rw.s (n - 1) 0
def theC (g : Nat → Ar) (n k : Nat) : Int := if k = 0 ∨ k = n then rndW (upW g n) (downW g n) else rndW (xE (resF g n) Rw.r (n - 1) (k - 1) * downW g n + xE (resF g n) Rw.s (n - 1) (k - 1) * upW g n) (qE (resF g n) (n - 1) * downW g n)
def wholeW (l : List Ar) : List Ar := (List.range l.length).map fun k => uvA (l.getD k zA) (theC (fun i => l.getD i zA) l.length k) (wr (-(turnC (fun i => l.getD i zA) l.length (k + 1)) - theC (fun i => l.getD i zA) l.length (k + 1)))
theorem resF_eq (g : Nat → Ar) {n k : Nat} (h : k + 1 < n) : resF g n k = ⟨(rowC g n (k + 1)).a, (rowC g n (k + 1)).m, (rowC g n (k + 1)).e, (rowC g n (k + 1)).r, (if k = 0 then -(rowC g n (k + 1)).a else 0) - (if k + 2 = n then (rowC g n (k + 1)).e else 0)⟩ := if_pos h
theorem turnC_b (g : Nat → Ar) (n j : Nat) : -188743680 ≤ turnC g n j ∧ turnC g n j ≤ 188743680 := by
  unfold turnC
  split
  · have := red_b ((g 0).dir - (g (n - 1)).dir); omega
  · split
    · have := red_b ((g 0).dir - (g (n - 1)).dir); omega
    · have := red_b ((g j).dir - (g (j - 1)).dir); omega
theorem rowC_dom {g : Nat → Ar} {n : Nat} (hok : ∀ k, k < n → okG (g k)) {k : Nat} (hk : k < n) : 0 < (rowC g n k).a ∧ 0 < (rowC g n k).e ∧ (rowC g n k).a + (rowC g n k).e < (rowC g n k).m := by
  have hx : okG (g (if k = 0 then n - 1 else k - 1)) := hok _ (by split <;> omega)
  have hy := hok k hk
  obtain ⟨b, c, em, ha, hc, he, hb, hce⟩ := inn_parts (turnC g n k) (turnC g n (k + 1)) hx hy
  have x1 := hx.a1
  have y1 := hy.b1
  unfold rowC
  have m1 := Int.mul_lt_mul_of_pos_right (show 65536 < 3 * (g (if k = 0 then n - 1 else k - 1)).a.t - 65536 by omega) ha
  have m2 := Int.mul_lt_mul_of_pos_right (show 65536 < 3 * (g k).b.t - 65536 by omega) he
  refine ⟨ha, he, ?_⟩
  omega
theorem res_dom {g : Nat → Ar} {n : Nat} (hn : 2 ≤ n) (hok : ∀ k, k < n → okG (g k)) : DomF (resF g n) (n - 1) := by
  have D := fun (k : Nat) (hk : k < n - 1) => rowC_dom hok (show k + 1 < n by omega)
  refine ⟨fun k hk => by rw [resF_eq g (by omega)]; exact (D k hk).1, fun k hk => by rw [resF_eq g (by omega)]; exact (D k hk).2.1, fun k hk => by rw [resF_eq g (by omega)]; exact (D k hk).2.2, fun k hk => ?_, fun k hk => ?_⟩
  · have := D k hk
    have e : (k + 1 = n - 1) ↔ (k + 2 = n) := by omega
    simp only [resF_eq g (show k + 1 < n by omega), e]
    by_cases h0 : k = 0
    · by_cases h1 : k + 2 = n
      · simp only [if_pos h0, if_pos h1]; omega
      · simp only [if_pos h0, if_neg h1]; omega
    · by_cases h1 : k + 2 = n
      · simp only [if_neg h0, if_pos h1]; omega
      · simp only [if_neg h0, if_neg h1]; omega
  · have := D k hk
    have e : (k + 1 = n - 1) ↔ (k + 2 = n) := by omega
    simp only [resF_eq g (show k + 1 < n by omega), e]
    by_cases h0 : k = 0
    · by_cases h1 : k + 2 = n
      · simp only [if_pos h0, if_pos h1]; omega
      · simp only [if_pos h0, if_neg h1]; omega
    · by_cases h1 : k + 2 = n
      · simp only [if_neg h0, if_pos h1]; omega
      · simp only [if_neg h0, if_neg h1]; omega
theorem down_pos {g : Nat → Ar} {n : Nat} (hn : 2 ≤ n) (hok : ∀ k, k < n → okG (g k)) : 0 < downW g n := by
  have R := rowC_dom hok (show 0 < n by omega)
  have D := res_dom hn hok
  have q := (dom_q D (n - 2) (by omega)).1
  rw [show n - 2 + 1 = n - 1 by omega] at q
  have x1 := dom_x D (by omega) (n - 1 - 1 - (n - 2)) (by omega)
  have x2 := dom_x D (by omega) (n - 1 - 1 - 0) (by omega)
  unfold downW xE
  have m1 := Int.mul_le_mul_of_nonneg_left x1.1 (Int.le_of_lt R.1)
  have m2 := Int.mul_le_mul_of_nonneg_left x2.1 (Int.le_of_lt R.2.1)
  have m3 := Int.mul_lt_mul_of_pos_right R.2.2 q
  grind
theorem rowC_B {g : Nat → Ar} {n : Nat} (hok : ∀ k, k < n → okG (g k)) {k : Nat} (hk : k < n) : RwB (rowC g n k) :=
  inn_B (hok _ (by split <;> omega)) (hok k hk) (turnC_b g n k) (turnC_b g n (k + 1))
theorem res_B {g : Nat → Ar} {n : Nat} (hok : ∀ k, k < n → okG (g k)) : ∀ k, k < n - 1 → RwB (resF g n k) := by
  intro k hk
  have h := rowC_B hok (show k + 1 < n by omega)
  rw [resF_eq g (by omega)]
  refine ⟨h.a, h.m, h.e, h.r, ?_⟩
  have hk1 : k + 1 < n := by omega
  have hx : okG (g (if k + 1 = 0 then n - 1 else k + 1 - 1)) := hok _ (by split <;> omega)
  have five : ∀ {a b c d e : Int}, in63 a → in63 b → in63 c → in63 d → in63 e → bd 11 (prodZ [a, b, c, d, e]) := by
    intro a b c d e h1 h2 h3 h4 h5
    exact bd_prod (l := [a, b, c, d, e]) (by intro n hn; simp only [List.mem_cons, List.not_mem_nil, or_false] at hn; rcases hn with rfl | rfl | rfl | rfl | rfl <;> assumption)
  have A : bd 11 (rowC g n (k + 1)).a ∧ bd 11 (rowC g n (k + 1)).e := by
    obtain ⟨a1, a2, b1, b2, v1, v2, v3, v4, _, _, f1, f2, d1, d2⟩ := hx
    obtain ⟨c1, c2, e1, e2, v1', v2', v3', v4', _, _, g1, g2, d1', d2'⟩ := hok (k + 1) hk1
    refine ⟨five ?_ ?_ ?_ ?_ ?_, five ?_ ?_ ?_ ?_ ?_⟩ <;> exact ⟨by omega, by omega⟩
  have := bd_sub (bd_neg A.1) A.2
  show bd 16 ((if k = 0 then -(rowC g n (k + 1)).a else 0) - (if k + 2 = n then (rowC g n (k + 1)).e else 0))
  split
  · split
    · exact bd_mono this (by omega)
    · exact bd_mono (bd_sub (bd_neg A.1) (bd_0 11)) (by omega)
  · split
    · exact bd_mono (bd_sub (bd_0 11) A.2) (by omega)
    · exact bd_mono (bd_sub (bd_0 11) (bd_0 11)) (by omega)
theorem res_ElB {g : Nat → Ar} {n : Nat} (hn : 2 ≤ n) (hn2 : n ≤ 299) (hok : ∀ k, k < n → okG (g k)) : ElB (resF g n) (n - 1) (KE (n - 1)) := by
  refine elB_of (by omega) (by omega) (res_B hok) fun k hk => ?_
  match k with
  | 0 => exact Int.zero_lt_one
  | k + 1 => exact (dom_q (res_dom hn hok) k (by omega)).1
structure WhB (g : Nat → Ar) (n K : Nat) : Prop where
  up : bd K (upW g n)
  dn : bd K (downW g n)
  nu : ∀ k, k < n - 1 → bd K (xE (resF g n) Rw.r (n - 1) k * downW g n + xE (resF g n) Rw.s (n - 1) k * upW g n)
  nu1 : ∀ k, k < n - 1 → bd K (xE (resF g n) Rw.r (n - 1) k * downW g n)
  nu2 : ∀ k, k < n - 1 → bd K (xE (resF g n) Rw.s (n - 1) k * upW g n)
  qd : bd K (qE (resF g n) (n - 1) * downW g n)
theorem wh_B {g : Nat → Ar} {n : Nat} (hn : 2 ≤ n) (hn2 : n ≤ 299) (hok : ∀ k, k < n → okG (g k)) : WhB g n (2 * KE (n - 1) + 20) := by
  have E := res_ElB hn hn2 hok
  have R := rowC_B hok (show 0 < n by omega)
  obtain ⟨K, hK⟩ : ∃ K, K = KE (n - 1) := ⟨_, rfl⟩
  rw [← hK] at E ⊢
  have hq := E.q (n - 1) (Nat.le_refl _)
  have up : bd (K + 18) (upW g n) := by
    unfold upW
    have h1 := bd_mono (bd_mul R.r hq) (show 16 + K ≤ K + 16 by omega)
    have h2 := bd_mono (bd_mul R.a (E.xr (n - 2) (by omega))) (show 16 + K ≤ K + 16 by omega)
    have h3 := bd_mono (bd_mul R.e (E.xr 0 (by omega))) (show 16 + K ≤ K + 17 by omega)
    exact bd_sub (bd_sub h1 h2) h3
  have dn : bd (K + 18) (downW g n) := by
    unfold downW
    have h1 := bd_mono (bd_mul R.m hq) (show 16 + K ≤ K + 16 by omega)
    have h2 := bd_mono (bd_mul R.a (E.xs (n - 2) (by omega))) (show 16 + K ≤ K + 16 by omega)
    have h3 := bd_mono (bd_mul R.e (E.xs 0 (by omega))) (show 16 + K ≤ K + 17 by omega)
    exact bd_add (bd_add h1 h2) h3
  have n1 : ∀ k, k < n - 1 → bd (K + (K + 18)) (xE (resF g n) Rw.r (n - 1) k * downW g n) := fun k hk => bd_mul (E.xr k hk) dn
  have n2 : ∀ k, k < n - 1 → bd (K + (K + 18)) (xE (resF g n) Rw.s (n - 1) k * upW g n) := fun k hk => bd_mul (E.xs k hk) up
  exact ⟨bd_mono up (by omega), bd_mono dn (by omega), fun k hk => bd_mono (bd_add (n1 k hk) (n2 k hk)) (by omega), fun k hk => bd_mono (n1 k hk) (by omega), fun k hk => bd_mono (n2 k hk) (by omega), bd_mono (bd_mul hq dn) (by omega)⟩
theorem KE_b {n : Nat} (hn : n ≤ 300) : 2 * (2 * KE n + 20) + 4 < 536870912 := by
  have : KE n ≤ 302 * 5102 := Nat.mul_le_mul (by omega) (by omega)
  omega
end

section
set_option maxRecDepth 20000
theorem arg_b' (x y : Int) : (-188743680 ≤ argW x y ∧ argW x y ≤ 188743680) := (arg_b x y).2.2.2
theorem nx {n k : Nat} (h : k < n) : (k + 1) % n = if k + 1 = n then 0 else k + 1 := by
  split
  · rename_i e; rw [e, Nat.mod_self]
  · exact Nat.mod_eq_of_lt (by omega)
def okS (s : Sd) : Prop := s.op = 3 ∨ (inT s.t = true ∧ (s.op = 0 ∨ s.op = 1 ∨ s.op = 2) ∧ -188743680 ≤ s.v ∧ s.v ≤ 268435455 ∧ (s.op ≠ 1 → 0 ≤ s.v))
theorem okSd_S {s : Sd} (h : okSd s = true) : okS s := by
  unfold okSd at h
  split at h
  · rename_i h3; exact .inl h3
  · simp only [Bool.and_eq_true] at h
    obtain ⟨_, ht, h⟩ := h
    refine .inr ⟨ht, ?_⟩
    split at h
    · simp only [decide_eq_true_eq] at h; omega
    · split at h
      · simp only [Bool.and_eq_true, decide_eq_true_eq] at h; omega
      · split at h
        · simp only [Bool.and_eq_true, decide_eq_true_eq] at h; omega
        · exact absurd h (by decide)
theorem like_S {o s : Sd} (x y : Int) (h : okS o) (hs : okS s) : okS (likeW o s x y) := by
  unfold likeW
  split
  · rename_i h0
    have ht : inT o.t = true := (h.resolve_left (by omega)).1
    split
    · exact h
    · split
      · split
        · exact .inr ⟨ht, .inr (.inr rfl), by show -188743680 ≤ 65536; omega, by show 65536 ≤ 268435455; omega, fun _ => by show (0 : Int) ≤ 65536; omega⟩
        · have := arg_b' x y
          exact .inr ⟨ht, .inr (.inl rfl), this.1, by show argW x y ≤ 268435455; omega, fun h => absurd rfl h⟩
      · rename_i h3
        have hs' := hs.resolve_left h3
        exact .inr ⟨ht, hs'.2⟩
  · exact h
theorem opn_S {o : Sd} (h : okS o) : okS (opnW o) := by
  unfold opnW
  split
  · rename_i h0
    have ht : inT o.t = true := (h.resolve_left (by omega)).1
    exact .inr ⟨ht, .inr (.inr rfl), by show -188743680 ≤ 65536; omega, by show 65536 ≤ 268435455; omega, fun _ => by show (0 : Int) ≤ 65536; omega⟩
  · exact h
theorem like_3 (o s : Sd) (x y : Int) : (likeW o s x y).op = 3 ↔ o.op = 3 := by
  unfold likeW
  split
  · split
    · exact Iff.rfl
    · split
      · split
        · simp; omega
        · simp; omega
      · simp; omega
  · exact Iff.rfl
theorem like_keep {o s : Sd} {x y : Int} (h : o.op = 3) : likeW o s x y = o := by unfold likeW; rw [if_neg (by omega)]
theorem like_0 (o s : Sd) (x y : Int) : (likeW o s x y).op = 0 ↔ (o.op = 0 ∧ s.op = 0) := by
  unfold likeW
  split
  · rename_i h0
    split
    · rename_i h1; exact ⟨fun _ => ⟨h0, h1⟩, fun _ => h0⟩
    · rename_i h1
      split
      · split
        · simp; omega
        · simp; omega
      · simp; omega
  · rename_i h0; exact ⟨fun h => absurd h h0, fun h => absurd h.1 h0⟩
theorem opn_3 (o : Sd) : (opnW o).op = 3 ↔ o.op = 3 := by
  unfold opnW
  split
  · simp; omega
  · exact Iff.rfl
theorem opn_0 (o : Sd) : (opnW o).op ≠ 0 := by
  unfold opnW
  split
  · simp
  · assumption
theorem opn_keep {o : Sd} (h : o.op = 3) : opnW o = o := by unfold opnW; rw [if_neg (by omega)]
theorem s1_gt {l : List Kn} {k j : Nat} (_hk : k < l.length) (hj : j < l.length) (hc : s1C l k) :
    (s1 l k).getD j zK = ⟨(l.getD j zK).x, (l.getD j zK).y, if (k + 1) % l.length = j then fixS (l.getD ((k + 1) % l.length) zK).x (l.getD ((k + 1) % l.length) zK).y else (l.getD j zK).c, if k = j then fixS (l.getD ((k + 1) % l.length) zK).x (l.getD ((k + 1) % l.length) zK).y else (l.getD j zK).l⟩ := by
  have hm : (k + 1) % l.length < l.length := Nat.mod_lt _ (by omega)
  have hA : (s1A l k).length = l.length := by unfold s1A; simp
  have hg : ∀ i, i < l.length → (s1A l k).getD i zK = ⟨(l.getD i zK).x, (l.getD i zK).y, (l.getD i zK).c, if k = i then fixS (l.getD ((k + 1) % l.length) zK).x (l.getD ((k + 1) % l.length) zK).y else (l.getD i zK).l⟩ := by
    intro i hi
    unfold s1A
    rw [getD_set hi]
    split
    · rename_i e; rw [e]
    · rfl
  unfold s1
  rw [if_pos hc]
  unfold s1B
  rw [getD_set (by rw [hA]; exact hj), hg _ hm, hg j hj]
  by_cases e : (k + 1) % l.length = j
  · subst e; rw [if_pos rfl, if_pos rfl]
  · rw [if_neg e, if_neg e]
theorem s1_not {l : List Kn} {k : Nat} (hc : ¬ s1C l k) : s1 l k = l := by unfold s1; rw [if_neg hc]
structure S1F (l : List Kn) (n i : Nat) (L : List Kn) : Prop where
  len : L.length = l.length
  pt : ∀ j, j < l.length → (L.getD j zK).x = (l.getD j zK).x ∧ (L.getD j zK).y = (l.getD j zK).y
  ok : ∀ j, j < l.length → okS (L.getD j zK).c ∧ okS (L.getD j zK).l
  pair : ∀ k, k < n → pairK L k
  far : ∀ k, k < i → (L.getD k zK).l.op ≠ 3 → ¬ samePt (L.getD k zK) (L.getD ((k + 1) % l.length) zK)
  keep : ∀ k, k < n → (l.getD k zK).l.op = 3 → (L.getD k zK).l = (l.getD k zK).l ∧ (L.getD ((k + 1) % l.length) zK).c = (l.getD ((k + 1) % l.length) zK).c
theorem fix_S (x y : Int) : okS (fixS x y) := .inl rfl
theorem s1_F {l L : List Kn} {n i : Nat} (hn : n = l.length ∨ n + 1 = l.length) (hi : i < n) (h : S1F l n i L) : S1F l n (i + 1) (s1 L i) := by
  obtain ⟨hl, pt, ok, pair, far, keep⟩ := h
  have hil : i < l.length := by omega
  by_cases hc : s1C L i
  · have G := fun (j : Nat) (hj : j < l.length) => s1_gt (l := L) (k := i) (j := j) (by omega) (by omega) hc
    rw [hl] at G
    have hm : ∀ k, k < n → (k + 1) % l.length < l.length := fun k _ => Nat.mod_lt _ (by omega)
    have inj : ∀ k, k < n → k ≠ i → (i + 1) % l.length ≠ (k + 1) % l.length := by
      intro k hk hne
      rw [nx hil, nx (show k < l.length by omega)]
      split <;> split <;> omega
    refine ⟨by rw [s1_len, hl], fun j hj => by rw [G j hj]; exact pt j hj, fun j hj => ?_, fun k hk => ?_, fun k hk h3 => ?_, fun k hk h3 => ?_⟩
    · rw [G j hj]
      refine ⟨?_, ?_⟩
      · show okS (if _ then _ else _)
        split
        · exact fix_S _ _
        · exact (ok j hj).1
      · show okS (if _ then _ else _)
        split
        · exact fix_S _ _
        · exact (ok j hj).2
    · unfold pairK
      rw [s1_len, hl, G k (by omega), G _ (hm k hk)]
      by_cases e : i = k
      · subst e; simp only [if_true]
      · simp only [if_neg e, if_neg (inj k hk (fun h => e h.symm))]
        have := pair k hk
        unfold pairK at this
        rw [hl] at this
        exact this
    · rw [G k (by omega)] at h3 ⊢
      rw [G _ (Nat.mod_lt _ (by omega))]
      by_cases e : i = k
      · subst e; simp [fixS] at h3
      · simp only [if_neg e] at h3
        exact far k (by omega) h3
    · rw [G k (by omega), G _ (hm k hk)]
      have e : i ≠ k := by
        intro e; subst e
        have := keep i hi h3
        exact hc.1 (by rw [this.1]; exact h3)
      simp only [if_neg e, if_neg (inj k hk (fun h => e h.symm))]
      exact keep k hk h3
  · rw [s1_not hc]
    refine ⟨hl, pt, ok, pair, fun k hk h3 => ?_, keep⟩
    by_cases e : k = i
    · subst e
      intro hs
      exact hc ⟨h3, by rw [hl]; exact hs⟩
    · exact far k (by omega) h3
theorem s1N_F {l : List Kn} {n : Nat} (hn : n = l.length ∨ n + 1 = l.length) (h0 : S1F l n 0 l) : ∀ i, i ≤ n → S1F l n i (s1N i l)
  | 0, _ => h0
  | i + 1, hi => s1_F hn (by omega) (s1N_F hn h0 i (by omega))
theorem s2N_get (c : Bool) (l : List Kn) : ∀ i, i ≤ l.length → ∀ j, j < l.length → (s2N c i l).getD j zK = if j < i ∧ ¬ skipC c l.length j then s2 (l.getD j zK) else l.getD j zK
  | 0, _, j, _ => by rw [if_neg (by omega)]; rfl
  | i + 1, hi, j, hj => by
    have ih := s2N_get c l i (by omega)
    rw [s2N]
    split
    · rename_i hs
      rw [ih j hj]
      by_cases e : j = i
      · subst e; rw [if_neg (by omega), if_neg (fun h => h.2 hs)]
      · by_cases q : j < i ∧ ¬ skipC c l.length j
        · rw [if_pos q, if_pos ⟨by omega, q.2⟩]
        · rw [if_neg q, if_neg (fun h => q ⟨by omega, h.2⟩)]
    · rename_i hs
      rw [getD_set (by rw [s2N_len]; exact hj)]
      by_cases e : i = j
      · subst e
        rw [if_pos rfl, if_pos ⟨by omega, hs⟩, ih i hj, if_neg (by omega)]
      · rw [if_neg e, ih j hj]
        by_cases q : j < i ∧ ¬ skipC c l.length j
        · rw [if_pos q, if_pos ⟨by omega, q.2⟩]
        · rw [if_neg q, if_neg (fun h => q ⟨by omega, h.2⟩)]
theorem s3_get (l : List Kn) {j : Nat} (hj : j < l.length) : (s3 false l).getD j zK = ⟨(l.getD j zK).x, (l.getD j zK).y, if j + 1 = l.length then opnW (l.getD j zK).c else (l.getD j zK).c, if j = 0 then opnW (l.getD j zK).l else (l.getD j zK).l⟩ := by
  have hA : (s3A l).length = l.length := by unfold s3A; simp
  have hg : ∀ i, i < l.length → (s3A l).getD i zK = ⟨(l.getD i zK).x, (l.getD i zK).y, (l.getD i zK).c, if i = 0 then opnW (l.getD i zK).l else (l.getD i zK).l⟩ := by
    intro i hi
    unfold s3A
    rw [getD_set hi]
    by_cases e : 0 = i
    · subst e; rw [if_pos rfl, if_pos rfl]
    · rw [if_neg e, if_neg (by omega)]
  show (s3B (s3A l)).getD j zK = _
  unfold s3B
  rw [getD_set (by rw [hA]; exact hj), hA, hg _ (by omega), hg j hj]
  by_cases e : l.length - 1 = j
  · rw [if_pos e, if_pos (show j + 1 = l.length by omega), e]
  · rw [if_neg e, if_neg (show ¬ j + 1 = l.length by omega)]
structure SetF (l : List Kn) (c : Bool) (S : List Kn) : Prop where
  len : S.length = l.length
  pt : ∀ j, j < l.length → (S.getD j zK).x = (l.getD j zK).x ∧ (S.getD j zK).y = (l.getD j zK).y
  ok : ∀ j, j < l.length → okS (S.getD j zK).c ∧ okS (S.getD j zK).l
  pair : ∀ k, k < segs l c → ((S.getD k zK).l.op = 3 ↔ (S.getD ((k + 1) % l.length) zK).c.op = 3)
  far : ∀ k, k < segs l c → (S.getD k zK).l.op ≠ 3 → ¬ samePt (S.getD k zK) (S.getD ((k + 1) % l.length) zK)
  both : ∀ j, j < l.length → (c = true ∨ (0 < j ∧ j + 1 < l.length)) → ((S.getD j zK).c.op = 0 ↔ (S.getD j zK).l.op = 0)
  first : c = false → (S.getD 0 zK).l.op ≠ 0
  last : c = false → (S.getD (l.length - 1) zK).c.op ≠ 0
  keep : ∀ k, k < segs l c → (l.getD k zK).l.op = 3 → (S.getD k zK).l = (l.getD k zK).l ∧ (S.getD ((k + 1) % l.length) zK).c = (l.getD ((k + 1) % l.length) zK).c
theorem s2_keep {k : Kn} : ((s2 k).c.op = 3 ↔ k.c.op = 3) ∧ ((s2 k).l.op = 3 ↔ k.l.op = 3) ∧ ((s2 k).c.op = 0 ↔ (s2 k).l.op = 0) ∧ (k.c.op = 3 → (s2 k).c = k.c) ∧ (k.l.op = 3 → (s2 k).l = k.l) := by
  refine ⟨like_3 _ _ _ _, like_3 _ _ _ _, ?_, fun h => like_keep h, fun h => like_keep h⟩
  show (likeW _ _ _ _).op = 0 ↔ (likeW _ _ _ _).op = 0
  rw [like_0, like_0]
  exact And.comm
theorem segs_or (l : List Kn) (c : Bool) (hl : 1 ≤ l.length) : segs l c = l.length ∨ segs l c + 1 = l.length := by unfold segs; split <;> omega
theorem settled_F {l : List Kn} {c : Bool} (hv : validK l c = true) : SetF l c (settledW l c) := by
  have hl := (valid_len hv).1
  have hs := segs_or l c hl
  have hv' := hv
  simp only [validK, Bool.and_eq_true, decide_eq_true_eq] at hv'
  obtain ⟨⟨_, hall⟩, hpair⟩ := hv'
  have h0 : S1F l (segs l c) 0 l := by
    refine ⟨rfl, fun _ _ => ⟨rfl, rfl⟩, fun j hj => ?_, hpair, fun k hk => absurd hk (Nat.not_lt_zero _), fun _ _ _ => ⟨rfl, rfl⟩⟩
    rw [List.all_eq_true] at hall
    have := hall _ (List.mem_of_getElem? (getK hj))
    simp only [okKn, Bool.and_eq_true] at this
    exact ⟨okSd_S this.2.1, okSd_S this.2.2⟩
  obtain ⟨L, hL⟩ : ∃ L, L = s1N (segs l c) l := ⟨_, rfl⟩
  have F := s1N_F hs h0 (segs l c) (Nat.le_refl _)
  rw [← hL] at F
  obtain ⟨fl, pt, ok, pair, far, keep⟩ := F
  -- sides of the settled knots
  have K : ∀ j, j < l.length → ∃ q : Kn, (settledW l c).getD j zK = q ∧ q.x = (L.getD j zK).x ∧ q.y = (L.getD j zK).y ∧ okS q.c ∧ okS q.l ∧ (q.c.op = 3 ↔ (L.getD j zK).c.op = 3) ∧ (q.l.op = 3 ↔ (L.getD j zK).l.op = 3) ∧ ((L.getD j zK).c.op = 3 → q.c = (L.getD j zK).c) ∧ ((L.getD j zK).l.op = 3 → q.l = (L.getD j zK).l) ∧
      ((c = true ∨ (0 < j ∧ j + 1 < l.length)) → (q.c.op = 0 ↔ q.l.op = 0)) ∧ (c = false → j = 0 → q.l.op ≠ 0) ∧ (c = false → j + 1 = l.length → q.c.op ≠ 0) := by
    intro j hj
    refine ⟨_, rfl, ?_⟩
    have o := ok j hj
    have s2k := s2_keep (k := L.getD j zK)
    have g := s2N_get c L l.length (by omega) j (by omega)
    unfold settledW
    rw [← hL]
    cases c with
    | true =>
      have e : (s3 true (s2N true l.length L)).getD j zK = s2 (L.getD j zK) := by
        show (s2N true l.length L).getD j zK = _
        rw [g, if_pos ⟨hj, fun h => by have := h.1; contradiction⟩]
      rw [e]
      exact ⟨rfl, rfl, like_S _ _ o.1 o.2, like_S _ _ o.2 o.1, s2k.1, s2k.2.1, s2k.2.2.2.1, s2k.2.2.2.2, fun _ => s2k.2.2.1, fun h => absurd h (by decide), fun h => absurd h (by decide)⟩
    | false =>
      have g3 := s3_get (s2N false l.length L) (j := j) (by rw [s2N_len]; omega)
      rw [g3, s2N_len, fl]
      by_cases sk : skipC false L.length j
      · have e : (s2N false l.length L).getD j zK = L.getD j zK := by rw [g, if_neg (fun h => h.2 sk)]
        rw [e]
        refine ⟨rfl, rfl, ?_, ?_, ?_, ?_, ?_, ?_, ?_, ?_, ?_⟩
        · show okS (if _ then _ else _)
          split
          · exact opn_S o.1
          · exact o.1
        · show okS (if _ then _ else _)
          split
          · exact opn_S o.2
          · exact o.2
        · show (if _ then _ else _ : Sd).op = 3 ↔ _
          split
          · exact opn_3 _
          · exact Iff.rfl
        · show (if _ then _ else _ : Sd).op = 3 ↔ _
          split
          · exact opn_3 _
          · exact Iff.rfl
        · intro h
          show (if _ then _ else _ : Sd) = _
          split
          · exact opn_keep h
          · rfl
        · intro h
          show (if _ then _ else _ : Sd) = _
          split
          · exact opn_keep h
          · rfl
        · intro h
          have := sk.2
          rw [fl] at this
          rcases h with h | h
          · contradiction
          · omega
        · intro _ h
          show (if _ then _ else _ : Sd).op ≠ 0
          rw [if_pos h]; exact opn_0 _
        · intro _ h
          show (if _ then _ else _ : Sd).op ≠ 0
          rw [if_pos h]; exact opn_0 _
      · have e : (s2N false l.length L).getD j zK = s2 (L.getD j zK) := by rw [g, if_pos ⟨hj, sk⟩]
        have q1 : ¬ j + 1 = l.length := fun h => sk ⟨rfl, .inr (by rw [fl]; exact h)⟩
        have q0 : ¬ j = 0 := fun h => sk ⟨rfl, .inl h⟩
        rw [e, if_neg q1, if_neg q0]
        exact ⟨rfl, rfl, like_S _ _ o.1 o.2, like_S _ _ o.2 o.1, s2k.1, s2k.2.1, s2k.2.2.2.1, s2k.2.2.2.2, fun _ => s2k.2.2.1, fun _ h => absurd h q0, fun _ h => absurd h q1⟩
  have hm : ∀ k, (k + 1) % l.length < l.length := fun k => Nat.mod_lt _ (by omega)
  have hsl : ∀ k, k < segs l c → k < l.length := fun k hk => by omega
  refine ⟨by rw [settled_len], fun j hj => ?_, fun j hj => ?_, fun k hk => ?_, fun k hk h3 => ?_, fun j hj h => ?_, fun h => ?_, fun h => ?_, fun k hk h3 => ?_⟩
  · obtain ⟨q, e, a, b, _⟩ := K j hj
    rw [e, a, b]; exact pt j hj
  · obtain ⟨q, e, _, _, a, b, _⟩ := K j hj
    rw [e]; exact ⟨a, b⟩
  · obtain ⟨q, e, _, _, _, _, _, a, _⟩ := K k (hsl k hk)
    obtain ⟨q', e', _, _, _, _, a', _⟩ := K _ (hm k)
    rw [e, e', a, a']
    have := pair k hk
    unfold pairK at this
    rw [fl] at this
    exact this
  · obtain ⟨q, e, x, y, _, _, _, a, _⟩ := K k (hsl k hk)
    obtain ⟨q', e', x', y', _⟩ := K _ (hm k)
    rw [e] at h3
    rw [e, e']
    have := far k hk (fun h => h3 (a.2 h))
    unfold samePt at this ⊢
    rw [x, y, x', y']
    exact this
  · obtain ⟨q, e, _, _, _, _, _, _, _, _, a, _⟩ := K j hj
    rw [e]; exact a h
  · obtain ⟨q, e, _, _, _, _, _, _, _, _, _, a, _⟩ := K 0 (by omega)
    rw [e]; exact a h rfl
  · obtain ⟨q, e, _, _, _, _, _, _, _, _, _, _, a⟩ := K (l.length - 1) (by omega)
    rw [e]; exact a h (by omega)
  · obtain ⟨q, e, _, _, _, _, _, _, _, a, _⟩ := K k (hsl k hk)
    obtain ⟨q', e', _, _, _, _, _, _, a', _⟩ := K _ (hm k)
    have kk := keep k hk h3
    have hp := hpair k hk
    rw [e, e', ← kk.1, ← kk.2]
    refine ⟨a (by rw [kk.1]; exact h3), a' ?_⟩
    rw [kk.2]
    exact hp.1 h3
end

section
set_option maxRecDepth 20000
def soloP (mid : List Ar) : Prop := mid.length = 1 ∧ (mid.getD 0 zA).a.op = 2 ∧ (mid.getD 0 zA).b.op = 2
instance (mid : List Ar) : Decidable (soloP mid) := by unfold soloP; infer_instance
def stretchW (mid : List Ar) : List Ar := if (mid.getD 0 zA).a.op = 3 then mid else if soloP mid then mid.map stW else openW mid
def strN : Nat → List Ar → List Ar
  | 0, _ => []
  | _ + 1, [] => []
  | f + 1, x :: xs => stretchW (x :: xs.take (chainN x xs)) ++ strN f (xs.drop (chainN x xs))
structure LkF (L : List Ar) : Prop where
  ok : ∀ k, k < L.length → (L.getD k zA).a.op ≠ 3 → okG (L.getD k zA)
  op : ∀ k, k < L.length → ((L.getD k zA).a.op = 0 ∨ (L.getD k zA).a.op = 1 ∨ (L.getD k zA).a.op = 2 ∨ (L.getD k zA).a.op = 3) ∧ ((L.getD k zA).b.op = 0 ∨ (L.getD k zA).b.op = 1 ∨ (L.getD k zA).b.op = 2 ∨ (L.getD k zA).b.op = 3)
  fix : ∀ k, k < L.length → ((L.getD k zA).a.op = 3 ↔ (L.getD k zA).b.op = 3)
  lk : ∀ k, k + 1 < L.length → ((L.getD k zA).b.op = 0 ↔ (L.getD (k + 1) zA).a.op = 0)
  first : 0 < L.length → (L.getD 0 zA).a.op ≠ 0
  last : 0 < L.length → (L.getD (L.length - 1) zA).b.op ≠ 0
theorem goes_not {x y : Ar} (h : goesW x y = false) : x.a.op = 3 ∨ y.a.op = 3 ∨ x.b.op ≠ 0 ∨ y.a.op ≠ 0 := by
  unfold goesW at h
  by_cases h1 : x.a.op = 3
  · exact .inl h1
  by_cases h2 : y.a.op = 3
  · exact .inr (.inl h2)
  by_cases h3 : x.b.op = 0
  · by_cases h4 : y.a.op = 0
    · simp [h1, h3, h4] at h
    · exact .inr (.inr (.inr h4))
  · exact .inr (.inr (.inl h3))
theorem goes_is {x y : Ar} (h : goesW x y = true) : x.a.op ≠ 3 ∧ y.a.op ≠ 3 ∧ x.b.op = 0 ∧ y.a.op = 0 := by
  unfold goesW at h
  simpa using h
theorem getD_drop {α : Type} (l : List α) (n i : Nat) (z : α) : (l.drop n).getD i z = l.getD (n + i) z := by simp only [List.getD, List.getElem?_drop]
theorem getD_take {α : Type} {l : List α} {n i : Nat} (h : i < n) (z : α) : (l.take n).getD i z = l.getD i z := by simp only [List.getD, List.getElem?_take, if_pos h]
theorem str_of : ∀ (f : Nat) (L : List Ar), L.length ≤ f → L.length ≤ 299 → LkF L → Str L (strN f L)
  | 0, L, h, _, _ => by
    have : L = [] := List.eq_nil_of_length_eq_zero (by omega)
    subst this; exact .nil
  | f + 1, [], _, _, _ => .nil
  | f + 1, x :: xs, hf, h2, hL => by
    obtain ⟨n, hn⟩ : ∃ n, n = chainN x xs := ⟨_, rfl⟩
    have hcl := chain_le x xs
    have ht := chain_t x xs
    have hx := chain_f x xs
    simp only [strN]
    rw [← hn] at hcl ht hx ⊢
    simp only [List.length_cons] at hf h2
    have hlen : (x :: xs.take n).length = n + 1 := by simp; omega
    have hmid : ∀ k, k < n + 1 → (x :: xs.take n).getD k zA = (x :: xs).getD k zA := by
      intro k hk
      rw [show x :: xs.take n = (x :: xs).take (n + 1) from rfl]
      exact getD_take hk zA
    have hrest : ∀ k, (xs.drop n).getD k zA = (x :: xs).getD (n + 1 + k) zA := by
      intro k
      rw [show xs.drop n = (x :: xs).drop (n + 1) from rfl]
      exact getD_drop _ _ _ _
    have hrl : (xs.drop n).length = xs.length - n := List.length_drop
    have hLx : (x :: xs).length = xs.length + 1 := rfl
    have next : ∀ k, k + 1 = n + 1 → n + 1 < (x :: xs).length → ((x :: xs).getD n zA).b.op ≠ 0 ∧ ((x :: xs).getD (n + 1) zA).a.op ≠ 0 := by
      intro k _ hk
      have hg := goes_not (hx (by omega))
      have lk := hL.lk n (by omega)
      have fx := hL.fix n (by omega)
      rcases hg with h | h | h | h
      · have := fx.1 h; omega
      · omega
      · omega
      · omega
    have lastb : ((x :: xs).getD n zA).b.op ≠ 0 := by
      by_cases hk : n + 1 < (x :: xs).length
      · exact (next n rfl hk).1
      · have := hL.last (by omega)
        rwa [show (x :: xs).length - 1 = n by omega] at this
    have ih : Str (xs.drop n) (strN f (xs.drop n)) := by
      refine str_of f _ (by omega) (by omega) ⟨fun k hk => ?_, fun k hk => ?_, fun k hk => ?_, fun k hk => ?_, fun hk => ?_, fun hk => ?_⟩
      · rw [hrest]; exact hL.ok _ (by omega)
      · rw [hrest]; exact hL.op _ (by omega)
      · rw [hrest]; exact hL.fix _ (by omega)
      · rw [hrest, hrest]; exact hL.lk _ (by omega)
      · rw [hrest]; exact (next n rfl (by omega)).2
      · rw [hrest, hrl, show n + 1 + (xs.length - n - 1) = (x :: xs).length - 1 by omega]; exact hL.last (by omega)
    have h0 : (x :: xs.take n).getD 0 zA = x := rfl
    have hsl : (stretchW (x :: xs.take n)).length = n + 1 := by
      unfold stretchW
      split
      · exact hlen
      · split
        · rw [List.length_map]; exact hlen
        · unfold openW; rw [List.length_map, List.length_range]; exact hlen
    refine Str.cons x xs _ _ (by rw [hsl, hn]) (fun h3 => ?_) (fun h3 => ?_) (by rw [← hn]; exact ih)
    · rw [← hn]; unfold stretchW; rw [if_pos (by rw [h0]; exact h3)]
    · rw [← hn]
      unfold stretchW
      rw [if_neg (by rw [h0]; exact h3)]
      by_cases hs : soloP (x :: xs.take n)
      · rw [if_pos hs]
        have hn0 : n = 0 := by have := hs.1; omega
        subst hn0
        rw [List.take_zero] at hs ⊢
        exact open_st x hs.2.1 hs.2.2
      · rw [if_neg hs]
        have free : ∀ k, k < n + 1 → ((x :: xs).getD k zA).a.op ≠ 3 := by
          intro k hk
          by_cases hk0 : k = 0
          · subst hk0; exact h3
          · have := goes_is (ht (k - 1) (by omega))
            rw [show k - 1 + 1 = k by omega] at this
            exact this.2.1
        have hok : ∀ k, k < n + 1 → okG ((x :: xs.take n).getD k zA) := by
          intro k hk
          rw [hmid k hk]; exact hL.ok k (by omega) (free k hk)
        refine open48 _ (KE (n + 1 + 1)) (by omega) hs (fun k hk => (hok k (by omega)).ar) ?_
        rw [hlen]
        refine row_ElB (by omega) (by omega) hok ?_
        rintro ⟨e, e1, e2⟩
        refine hs ⟨by omega, ?_, ?_⟩
        · have a0 := hL.first (by omega)
          have o := (hL.op 0 (by omega)).1
          have f0 := free 0 (by omega)
          have e1' : ((x :: xs).getD 0 zA).a.op ≠ 1 := e1
          show ((x :: xs).getD 0 zA).a.op = 2
          omega
        · have o := (hL.op 0 (by omega)).2
          have f0 := free 0 (by omega)
          have fx := hL.fix 0 (by omega)
          have e2' : ((x :: xs).getD 0 zA).b.op ≠ 1 := e2
          rw [show n = 0 by omega] at lastb
          show ((x :: xs).getD 0 zA).b.op = 2
          omega
def begI (p : Nat → Bool) : Nat → Nat → Nat
  | 0, i => i
  | f + 1, i => if p i then begI p f (i + 1) else i
theorem begI_F (p : Nat → Bool) : ∀ f i, (i ≤ begI p f i ∧ begI p f i ≤ i + f) ∧ (∀ j, i ≤ j → j < begI p f i → p j = true) ∧ (begI p f i < i + f → p (begI p f i) = false)
  | 0, i => ⟨⟨Nat.le_refl _, Nat.le_refl _⟩, fun j h1 h2 => by simp only [begI] at h2; omega, fun h => by simp only [begI] at h; omega⟩
  | f + 1, i => by
    have ih := begI_F p f (i + 1)
    simp only [begI]
    split
    · rename_i hp
      refine ⟨⟨by omega, by omega⟩, fun j h1 h2 => ?_, fun h => ih.2.2 (by omega)⟩
      by_cases e : j = i
      · rw [e]; exact hp
      · exact ih.2.1 j (by omega) h2
    · rename_i hp
      exact ⟨⟨Nat.le_refl _, by omega⟩, fun j h1 h2 => by omega, fun _ => by simpa using hp⟩
def cycP (l : List Ar) (i : Nat) : Bool := goesW (l.getD ((i + l.length - 1) % l.length) zA) (l.getD i zA)
def begW (l : List Ar) : Nat := begI (cycP l) l.length 0
def rotW (l : List Ar) (b : Nat) : List Ar := (strN l.length (l.drop b ++ l.take b)).drop (l.length - b) ++ (strN l.length (l.drop b ++ l.take b)).take (l.length - b)
def solveW (l : List Ar) (c : Bool) : List Ar := if c then (if begW l = l.length then wholeW l else rotW l (begW l)) else rotW l 0
structure AllF (l : List Ar) (c : Bool) : Prop where
  ok : ∀ k, k < l.length → (l.getD k zA).a.op ≠ 3 → okG (l.getD k zA)
  op : ∀ k, k < l.length → ((l.getD k zA).a.op = 0 ∨ (l.getD k zA).a.op = 1 ∨ (l.getD k zA).a.op = 2 ∨ (l.getD k zA).a.op = 3) ∧ ((l.getD k zA).b.op = 0 ∨ (l.getD k zA).b.op = 1 ∨ (l.getD k zA).b.op = 2 ∨ (l.getD k zA).b.op = 3)
  fix : ∀ k, k < l.length → ((l.getD k zA).a.op = 3 ↔ (l.getD k zA).b.op = 3)
  lk : ∀ k, k < l.length → (c = true ∨ k + 1 < l.length) → ((l.getD k zA).b.op = 0 ↔ (l.getD ((k + 1) % l.length) zA).a.op = 0)
  first : c = false → 0 < l.length → (l.getD 0 zA).a.op ≠ 0
  last : c = false → 0 < l.length → (l.getD (l.length - 1) zA).b.op ≠ 0
theorem rot_get {l : List Ar} {b i : Nat} (hb : b ≤ l.length) (hi : i < l.length) : (l.drop b ++ l.take b).getD i zA = l.getD (if b + i < l.length then b + i else b + i - l.length) zA := by
  have hd : (l.drop b).length = l.length - b := List.length_drop
  split
  · rename_i h
    simp only [List.getD]
    rw [List.getElem?_append_left (by omega), List.getElem?_drop]
  · rename_i h
    simp only [List.getD]
    rw [List.getElem?_append_right (by omega), List.getElem?_take, if_pos (by omega), hd, show i - (l.length - b) = b + i - l.length by omega]
theorem rot_Lk {l : List Ar} {c : Bool} {b : Nat} (h : AllF l c) (hb : (c = false ∧ b = 0) ∨ (c = true ∧ b < l.length ∧ cycP l b = false)) : LkF (l.drop b ++ l.take b) := by
  have hbl : b ≤ l.length := by rcases hb with h | h <;> omega
  have hl : (l.drop b ++ l.take b).length = l.length := by simp; omega
  have G := fun (i : Nat) (hi : i < l.length) => rot_get (l := l) hbl hi
  refine ⟨fun k hk => ?_, fun k hk => ?_, fun k hk => ?_, fun k hk => ?_, fun hk => ?_, fun hk => ?_⟩
  · rw [G k (by omega)]; exact h.ok _ (by split <;> omega)
  · rw [G k (by omega)]; exact h.op _ (by split <;> omega)
  · rw [G k (by omega)]; exact h.fix _ (by split <;> omega)
  · rw [G k (by omega), G (k + 1) (by omega)]
    have hcc : c = true ∨ (if b + k < l.length then b + k else b + k - l.length) + 1 < l.length := by
      rcases hb with hb | hb
      · exact .inr (by split <;> omega)
      · exact .inl hb.1
    have := h.lk (if b + k < l.length then b + k else b + k - l.length) (by split <;> omega) hcc
    rw [this, nx (by split <;> omega)]
    have e : (if (if b + k < l.length then b + k else b + k - l.length) + 1 = l.length then 0 else (if b + k < l.length then b + k else b + k - l.length) + 1) = (if b + (k + 1) < l.length then b + (k + 1) else b + (k + 1) - l.length) := by
      split <;> split <;> split <;> omega
    rw [e]
  · rw [G 0 (by omega), if_pos (by rcases hb with hb | hb <;> omega), Nat.add_zero]
    rcases hb with hb | ⟨hc, hbl, hcy⟩
    · rw [hb.2]; exact h.first hb.1 (by omega)
    · have hj : (b + l.length - 1) % l.length < l.length := Nat.mod_lt _ (by omega)
      have lk := h.lk ((b + l.length - 1) % l.length) hj (.inl hc)
      have fx := h.fix ((b + l.length - 1) % l.length) hj
      have e : ((b + l.length - 1) % l.length + 1) % l.length = b := by
        by_cases b0 : b = 0
        · subst b0; rw [show 0 + l.length - 1 = l.length - 1 by omega, Nat.mod_eq_of_lt (show l.length - 1 < l.length by omega), nx (by omega), if_pos (by omega)]
        · rw [show b + l.length - 1 = b - 1 + l.length by omega, Nat.add_mod_right, Nat.mod_eq_of_lt (show b - 1 < l.length by omega), nx (by omega), if_neg (by omega)]; omega
      rw [e] at lk
      have hg := goes_not hcy
      rcases hg with g | g | g | g
      · have := fx.1 g; omega
      · omega
      · omega
      · exact g
  · rw [hl, G (l.length - 1) (by omega)]
    rcases hb with ⟨hc, rfl⟩ | ⟨hc, hbl, hcy⟩
    · rw [if_pos (by omega), Nat.zero_add]; exact h.last hc (by omega)
    · have e0 : (if b + (l.length - 1) < l.length then b + (l.length - 1) else b + (l.length - 1) - l.length) = (b + l.length - 1) % l.length := by
        by_cases b0 : b = 0
        · subst b0; rw [if_pos (by omega), show 0 + l.length - 1 = l.length - 1 by omega, Nat.mod_eq_of_lt (show l.length - 1 < l.length by omega)]; omega
        · rw [if_neg (by omega), show b + l.length - 1 = b - 1 + l.length by omega, Nat.add_mod_right, Nat.mod_eq_of_lt (show b - 1 < l.length by omega)]; omega
      rw [e0]
      have hj : (b + l.length - 1) % l.length < l.length := Nat.mod_lt _ (by omega)
      have lk := h.lk ((b + l.length - 1) % l.length) hj (.inl hc)
      have fx := h.fix ((b + l.length - 1) % l.length) hj
      have e : ((b + l.length - 1) % l.length + 1) % l.length = b := by
        by_cases b0 : b = 0
        · subst b0; rw [show 0 + l.length - 1 = l.length - 1 by omega, Nat.mod_eq_of_lt (show l.length - 1 < l.length by omega), nx (by omega), if_pos (by omega)]
        · rw [show b + l.length - 1 = b - 1 + l.length by omega, Nat.add_mod_right, Nat.mod_eq_of_lt (show b - 1 < l.length by omega), nx (by omega), if_neg (by omega)]; omega
      rw [e] at lk
      have hg := goes_not hcy
      rcases hg with g | g | g | g
      · have := fx.1 g; omega
      · omega
      · exact g
      · omega
theorem arcs0_All {l : List Kn} {c : Bool} (hv : validK l c = true) : AllF (arcs0 l c) c := by
  have hl := (valid_len hv).1
  have S := settled_F hv
  have B := settled_b (c := c) (valid_b hv) (by omega)
  obtain ⟨sl, pt, ok, pair, far, both, first, last, keep⟩ := S
  have hs := segs_or l c hl
  have hal := arcs0_len l c
  have hm : ∀ k, (k + 1) % l.length < l.length := fun k => Nat.mod_lt _ (by omega)
  have G : ∀ k, k < segs l c → ArcF (settledW l c) k ((arcs0 l c).getD k zA) := fun k hk => by rw [arcs0_get hk]; exact arc_f _ _
  have GA : ∀ k, k < segs l c → ((arcs0 l c).getD k zA).a = ((settledW l c).getD k zK).l := fun k hk => (G k hk).a
  have GB : ∀ k, k < segs l c → ((arcs0 l c).getD k zA).b = ((settledW l c).getD ((k + 1) % l.length) zK).c := fun k hk => by have := (G k hk).b; rwa [sl] at this
  have oS : ∀ s : Sd, okS s → (s.op = 0 ∨ s.op = 1 ∨ s.op = 2 ∨ s.op = 3) := fun s h => by rcases h with h | ⟨_, h, _⟩ <;> omega
  refine ⟨fun k hk h3 => ?_, fun k hk => ?_, fun k hk => ?_, fun k hk hc => ?_, fun hc hk => ?_, fun hc hk => ?_⟩
  · rw [hal] at hk
    rw [GA k hk] at h3
    have ka := (ok k (by omega)).2.resolve_left h3
    have kb := (ok _ (hm k)).1.resolve_left (fun h => h3 ((pair k hk).2 h))
    have fr := far k hk h3
    have b1 := (B k (by omega)).1
    have b2 := (B _ (show (k + 1) % l.length < (settledW l c).length by rw [sl]; exact hm k)).1
    rw [← GA k hk] at ka h3
    rw [← GB k hk] at kb
    have hd : ((arcs0 l c).getD k zA).far = hypW (((settledW l c).getD ((k + 1) % l.length) zK).x - ((settledW l c).getD k zK).x) (((settledW l c).getD ((k + 1) % l.length) zK).y - ((settledW l c).getD k zK).y) ∧ ((arcs0 l c).getD k zA).dir = argW (((settledW l c).getD ((k + 1) % l.length) zK).x - ((settledW l c).getD k zK).x) (((settledW l c).getD ((k + 1) % l.length) zK).y - ((settledW l c).getD k zK).y) := by
      rw [GA k hk] at h3
      rw [arcs0_get hk]
      unfold arcW
      rw [if_neg h3, sl]
      exact ⟨rfl, rfl⟩
    obtain ⟨z, hz⟩ : ∃ z, z = (settledW l c).getD k zK := ⟨_, rfl⟩
    obtain ⟨w, hw⟩ : ∃ w, w = (settledW l c).getD ((k + 1) % l.length) zK := ⟨_, rfl⟩
    rw [← hz] at b1 fr hd
    rw [← hw] at b2 fr hd
    simp only [inP, inC, Bool.and_eq_true, decide_eq_true_eq] at b1 b2
    have hyp := hyp_b (a := w.x - z.x) (b := w.y - z.y) (by omega) (by omega)
    have ag := arg_b' (w.x - z.x) (w.y - z.y)
    have hp := hyp.pos (by
      refine Decidable.byContradiction fun h => fr ?_
      unfold samePt
      omega)
    have hh := hyp.hi
    simp only [inT, Bool.and_eq_true, decide_eq_true_eq] at ka kb
    exact ⟨ka.1.1, ka.1.2, kb.1.1, kb.1.2, ka.2.2.1, ka.2.2.2.1, kb.2.2.1, kb.2.2.2.1, ka.2.2.2.2, kb.2.2.2.2, by rw [hd.1]; omega, by rw [hd.1]; omega, by rw [hd.2]; exact ag.1, by rw [hd.2]; exact ag.2⟩
  · rw [hal] at hk
    rw [GA k hk, GB k hk]
    exact ⟨oS _ (ok k (by omega)).2, oS _ (ok _ (hm k)).1⟩
  · rw [hal] at hk
    rw [GA k hk, GB k hk]
    exact pair k hk
  · rw [hal] at hk hc ⊢
    cases c with
    | true =>
      have e : segs l true = l.length := rfl
      rw [e]
      rw [GB k hk, GA _ (by rw [e]; exact hm k)]
      exact both _ (hm k) (.inl rfl)
    | false =>
      have hk1 : k + 1 < segs l false := hc.resolve_left (by simp)
      have e : segs l false = l.length - 1 := rfl
      rw [Nat.mod_eq_of_lt hk1, GB k hk, GA _ hk1, Nat.mod_eq_of_lt (by omega)]
      exact both _ (by omega) (.inr ⟨by omega, by omega⟩)
  · rw [hal] at hk
    rw [GA 0 hk]; exact first hc
  · rw [hal] at hk ⊢
    subst hc
    have e : segs l false = l.length - 1 := rfl
    rw [GB _ (by omega), e, Nat.mod_eq_of_lt (by omega), show l.length - 1 - 1 + 1 = l.length - 1 by omega]
    exact last rfl
end

end Go.Proofs.Ytckbchkkjnahlaa
