/- What functions of the given program answer, part 1. Conditions: each theorem speaks for itself. -/
import Derived.Test.YtckbchkkjnahlaaBTy
set_option linter.unusedSimpArgs false
set_option linter.unusedVariables false
namespace Go.Proofs.Ytckbchkkjnahlaa
open Go Go.Eng Go.RowKit
attribute [local go_sem ↓] qE_move qE_assign qE_pick qE_load qE_fieldAddr qE_indexAddr qE_extract qE_binOp qE_neg qE_not qE_convert qE_build qE_len qE_max2 qE_min2 qE_nilCheck qE_slice vc_end vc_skip vc_ret vc_seq vc_cond vc_block vc_exit vc_region vc_draw vc_loop vc_blk vc_lp vc_o_nil vc_o vc_o_guard onK_eq oK_move oK_assign oK_pick oK_load oK_fieldAddr oK_indexAddr oK_index oK_extract oK_binOp oK_unOp oK_convert oK_nilCheck oK_slice oK_build oK_len oK_max oK_min onN_eq oK_box oK_alloc oK_buildSlice oK_makeSlice onH_eq oK_store onA_eq oK_append oK_call oK_copy oK_cap oK_clear bV_add bV_sub bV_mul bV_quo bV_rem bV_or bV_shl bV_shr bV_eql bV_neq bV_lss bV_leq bV_gtr bV_geq vcQ_nil vcQ_cons vcQ_guard Q_move Q_assign Q_pick Q_load Q_fieldAddr Q_indexAddr Q_extract Q_binOp Q_unOp Q_convert Q_nilCheck Q_slice Q_build Q_len Q_alloc Q_makeSlice Q_buildSlice Q_call qE_index tailB_nil tailB_true onS_eq tailB_store onP_eq tailB_append onQ_eq onQB_eq loadE indexE
attribute [local go_sem] force_eq optK_some optE_some optE_none bK_v tK_t fnK_fn fyK_fn nK_ptr pK_ptr pK_rp brK_true brK_false brK_not evA_tmp evA_const evA_func putA_some putA_none pushA_eq slots_zero slots_nil tl_nil tl_cons find_cons find_nil setN_cons setN_nil dropN_nil dropN_cons loE_none loE_some hiE_none hiE_some slE_sl slE_ro bE_i bE_beq bE_bne bE_eql bE_neq intsA_nil intsA_cons gdK_b gdK_u popTo_blk popTo_c popTo_lp nilE_tmp nilE_int nilE_nil srcE_ro srcE_sl dstE_sl dstE_ez fin_eq res_nil res_tmp res_cell tup1 tup0 optA_some frz_v frz_ro frz_g frz_sl nm_v nm_ro nm_sl cells_v cells_g cells_ro cells_ptr cells_sl one_int one_bool one_slice oneA_v oneA_ro oneA_sl ofV_int ofV_bool ofV_string ofV_slice len_ro len_sl len_nil asI_int fill_nil fill_cons chunks_nil chunks_cons take_all DrawK_eq idR_eq addB_some roB_nil roB_cons sg_nil sg_cons ren_v ren_nil ren_ptr ren_sl ren_ro iK_ro iK_sl ixE_s takeA_00 takeA_s nil_eq maskE_eq i_InlQ i_tup2 i_RenF_nil i_RenF_cons wrap_wr brK_dec maskH_eq upd_get slots_succ Cl_v Cl_ro Cl_rp Cl_fn Cl_g Cl_t Bool.false_eq_true decide_true decide_false beq_self_eq_true true_and and_true ne_eq not_true not_false_eq_true List.elem_cons List.elem_nil List.contains_cons List.contains_nil List.getD_cons_zero List.getD_cons_succ Int.cast_ofNat_Int Bool.or_true Bool.true_or Bool.or_false Bool.false_or if_true if_false List.toList_toArray List.map_cons List.map_nil List.cons_append List.nil_append List.append_nil List.flatMap_cons List.flatMap_nil List.getElem?_cons_zero List.getElem?_cons_succ List.length_cons List.length_nil List.drop_succ_cons List.drop_zero List.take_succ_cons List.take_zero List.all_cons List.all_nil List.set_cons_zero List.set_cons_succ Option.bind_some Option.bind_none Option.map_some Option.map_none List.headD_cons List.tail_cons List.getElem?_toArray beq_true beq_false Bool.not_true Bool.not_false Bool.true_and Bool.and_true Bool.false_and Bool.and_false newCh List.replicate_succ List.replicate_zero Option.some.injEq exists_eq_left' sg_nil sg_cons List.mem_cons List.not_mem_nil forall_eq_or_imp forall_eq false_implies implies_true or_false false_or false_and and_false or_true true_or exists_false Option.isSome_some Option.isSome_none List.range_zero
attribute [local go_sem] T.ik2 T.us2 T.sz3 T.by3 T.ag3 T.pt3 T.ik3 T.us3 T.ze3 T.sz4 T.ag4 T.bo4 T.ik5 T.us5 T.st9 T.sz22 T.ag22 T.sl22 T.ar22 T.pt22 T.ik22 T.us22 T.sl25 T.ar25 T.pt25 T.ik25 T.us25 T.sz27 T.by27 T.ag27 T.ze27 T.fl27_0 T.fl27_1 T.bu27 T.sz30 T.ag30 T.sz32 T.ag32 T.ze32 T.fl32_0 T.fl32_1 T.fl32_2 T.fl32_3 T.bu32 T.sz34 T.by34 T.ag34 T.ze34 T.fl34_0 T.fl34_1 T.fl34_2 T.bu34 T.sz37 T.ag37 T.ze37 T.fl37_0 T.fl37_1 T.bu37 T.sl41 T.ik41 T.us41 T.sz44 T.by44 T.ag44 T.ze44 T.bu44 T.sz61 T.ag61 T.sl61 T.ar61 T.pt61 T.ik61 T.us61 T.ze61 T.sz66 T.by66 T.ag66 T.ze66 T.fl66_0 T.fl66_1 T.fl66_2 T.fl66_3 T.fl66_4 T.fl66_5 T.fl66_6 T.fl66_7 T.fl66_8 T.bu66 T.sl71 T.ik71 T.us71 T.sz80 T.ag80 T.ze80 T.sl81 T.ik94 T.us94 T.sl96 T.ar96 T.pt96 T.ik96 T.us96 T.sz98 T.ag98 T.sl98 T.ar98 T.pt98 T.ik98 T.us98 T.sz100 T.by100 T.ag100 T.ze100 T.fl100_0 T.fl100_1 T.bu100 T.sz101 T.by101 T.ag101 T.sl101 T.ar101 T.ze101 T.sz103 T.by103 T.ag103 T.ze103 T.fl103_0 T.fl103_1 T.fl103_2 T.fl103_3 T.bu103 T.sl107 T.sl112 T.ik118 T.sl122 T.sz127 T.ag127 T.ze127 T.fl127_0 T.fl127_1 T.bu127 T.sz131 T.by131 T.ag131 T.ik131 T.us131 T.ze131
section
theorem mixed : Try.prog.follows .mixedOrders = true := by kernel_rfl
def floorZ (a b : Int) : Int := if a.tmod b < 0 then wr (wr (a.tdiv b) - 1) else wr (a.tdiv b)
theorem floor53 (a b : Int) (hb : b ≠ 0) : PFun Try.prog 53 [I a, I b] (I (floorZ a b)) := by
  refine PFun.intro 400 mixed Try.func53 (by kernel_rfl) rfl (by first | exact .v _ | (simp [Cl_v, Cl_t, Cl_g, Cl_fn, Cl_rp, Cl_ro]; done) | (simp [Cl_v, Cl_t, Cl_g, Cl_fn, Cl_rp, Cl_ro, or_imp, forall_and]; done) | (split <;> simp [Cl_v, Cl_t, Cl_g, Cl_fn, Cl_rp, Cl_ro])) (Nat.le_of_ble_eq_true rfl) ?_; rw [Try.ntmps53, Try.results53]
  simp -dsimp -implicitDefEqProofs only [go_sem, seval]
  refine ⟨hb, hb, fun h => ?_, fun h => ?_⟩ <;> simp [floorZ, h]
def roundW (a b : Int) : Int := floorZ (wr (wr (2 * a) + b)) (wr (2 * b))
theorem round50 (a b : Int) (hb : wr (2 * b) ≠ 0) : PFun Try.prog 50 [I a, I b] (I (roundW a b)) := by
  refine PFun.intro 400 mixed Try.func50 (by kernel_rfl) rfl (by first | exact .v _ | (simp [Cl_v, Cl_t, Cl_g, Cl_fn, Cl_rp, Cl_ro]; done) | (simp [Cl_v, Cl_t, Cl_g, Cl_fn, Cl_rp, Cl_ro, or_imp, forall_and]; done) | (split <;> simp [Cl_v, Cl_t, Cl_g, Cl_fn, Cl_rp, Cl_ro])) (Nat.le_of_ble_eq_true rfl) ?_; rw [Try.ntmps50, Try.results50]
  simp -dsimp -implicitDefEqProofs only [go_sem, seval]
  refine AtFn.pure0 (floor53 _ _ hb) ?_
  simp -dsimp -implicitDefEqProofs only [go_sem, seval]
  rfl
def prodW (p q : Int) : Int := floorZ (wr (wr (p * q) + 134217728)) 268435456
theorem product52 (p q : Int) : PFun Try.prog 52 [I p, I q] (I (prodW p q)) := by
  refine PFun.intro 400 mixed Try.func52 (by kernel_rfl) rfl (by first | exact .v _ | (simp [Cl_v, Cl_t, Cl_g, Cl_fn, Cl_rp, Cl_ro]; done) | (simp [Cl_v, Cl_t, Cl_g, Cl_fn, Cl_rp, Cl_ro, or_imp, forall_and]; done) | (split <;> simp [Cl_v, Cl_t, Cl_g, Cl_fn, Cl_rp, Cl_ro])) (Nat.le_of_ble_eq_true rfl) ?_; rw [Try.ntmps52, Try.results52]
  simp -dsimp -implicitDefEqProofs only [go_sem, seval]
  refine AtFn.pure0 (floor53 _ _ (by decide)) ?_
  simp -dsimp -implicitDefEqProofs only [go_sem, seval]
  rfl
theorem within34 (n a b : Int) : PFun Try.prog 34 [I n, I a, I b] (Bo (decide (a ≤ n) && decide (n ≤ b))) := by
  refine PFun.intro 400 mixed Try.func34 (by kernel_rfl) rfl (by first | exact .v _ | (simp [Cl_v, Cl_t, Cl_g, Cl_fn, Cl_rp, Cl_ro]; done) | (simp [Cl_v, Cl_t, Cl_g, Cl_fn, Cl_rp, Cl_ro, or_imp, forall_and]; done) | (split <;> simp [Cl_v, Cl_t, Cl_g, Cl_fn, Cl_rp, Cl_ro])) (Nat.le_of_ble_eq_true rfl) ?_; rw [Try.ntmps34, Try.results34]
  simp -dsimp -implicitDefEqProofs only [go_sem, seval]
  refine ⟨fun h => ?_, fun h => ?_⟩ <;> simp [h]
abbrev Pt (p : Int × Int) : AV := .g [I p.1, I p.2]
def inC (x : Int) : Bool := decide (-268435455 ≤ x) && decide (x ≤ 268435455)
def inP (p : Int × Int) : Bool := inC p.1 && inC p.2
theorem placed32 (p : Int × Int) : PFun Try.prog 32 [Pt p] (Bo (inP p)) := by
  refine PFun.intro 400 mixed Try.func32 (by kernel_rfl) rfl (by first | exact .v _ | (simp [Cl_v, Cl_t, Cl_g, Cl_fn, Cl_rp, Cl_ro]; done) | (simp [Cl_v, Cl_t, Cl_g, Cl_fn, Cl_rp, Cl_ro, or_imp, forall_and]; done) | (split <;> simp [Cl_v, Cl_t, Cl_g, Cl_fn, Cl_rp, Cl_ro])) (Nat.le_of_ble_eq_true rfl) ?_; rw [Try.ntmps32, Try.results32]
  simp -dsimp -implicitDefEqProofs only [go_sem, seval]
  refine ⟨fun h => ?_, fun h => ?_⟩
  · congr 2
    rw [Bool.eq_iff_iff]
    simp only [inP, inC, Bool.and_eq_true, decide_eq_true_eq]
    omega
  · congr 2
    rw [Bool.eq_iff_iff]
    simp only [inP, inC, Bool.and_eq_true, decide_eq_true_eq]
    constructor
    · intro h; cases h
    · omega
theorem at11 (p : Int × Int) : PFun Try.prog 11 [Pt p] (Bo (inP p)) := by
  refine PFun.intro 400 mixed Try.func11 (by kernel_rfl) rfl (by first | exact .v _ | (simp [Cl_v, Cl_t, Cl_g, Cl_fn, Cl_rp, Cl_ro]; done) | (simp [Cl_v, Cl_t, Cl_g, Cl_fn, Cl_rp, Cl_ro, or_imp, forall_and]; done) | (split <;> simp [Cl_v, Cl_t, Cl_g, Cl_fn, Cl_rp, Cl_ro])) (Nat.le_of_ble_eq_true rfl) ?_; rw [Try.ntmps11, Try.results11]
  simp -dsimp -implicitDefEqProofs only [go_sem, seval]
  simp only [inP, inC]
  refine ⟨fun h1 => ⟨fun h2 => ⟨fun h3 => ?_, fun h3 => ?_⟩, fun h2 => ?_⟩, fun h1 => ?_⟩ <;> simp [*]
theorem minus40 (a b : Int × Int) : PFun Try.prog 40 [Pt a, Pt b] (Pt (wr (a.1 - b.1), wr (a.2 - b.2))) := by
  refine PFun.intro 400 mixed Try.func40 (by kernel_rfl) rfl (by first | exact .v _ | (simp [Cl_v, Cl_t, Cl_g, Cl_fn, Cl_rp, Cl_ro]; done) | (simp [Cl_v, Cl_t, Cl_g, Cl_fn, Cl_rp, Cl_ro, or_imp, forall_and]; done) | (split <;> simp [Cl_v, Cl_t, Cl_g, Cl_fn, Cl_rp, Cl_ro])) (Nat.le_of_ble_eq_true rfl) ?_; rw [Try.ntmps40, Try.results40]
  simp -dsimp -implicitDefEqProofs only [go_sem, seval]
theorem abs62 (x : Int) : PFun Try.prog 62 [I x] (I (max x (wr (0 - x)))) := by
  refine PFun.intro 400 mixed Try.func62 (by kernel_rfl) rfl (by first | exact .v _ | (simp [Cl_v, Cl_t, Cl_g, Cl_fn, Cl_rp, Cl_ro]; done) | (simp [Cl_v, Cl_t, Cl_g, Cl_fn, Cl_rp, Cl_ro, or_imp, forall_and]; done) | (split <;> simp [Cl_v, Cl_t, Cl_g, Cl_fn, Cl_rp, Cl_ro])) (Nat.le_of_ble_eq_true rfl) ?_; rw [Try.ntmps62, Try.results62]
  simp -dsimp -implicitDefEqProofs only [go_sem, seval]
end

section
set_option maxRecDepth 20000
theorem eqA27 (d : Nat) (w : World) (x0 y0 : Int) (x1 y1 : Int) :
    (Op.equalIn (d + 2) 27 (.agg #[.int .i64 x0, .int .i64 x1]) (.agg #[.int .i64 y0, .int .i64 y1])).run Try.prog w = .ok (x0 == y0 && ((x1 == y1) && true)) w := by
  refine eqS_of Try.underlying27 (by kernel_rfl) ?_
  refine eqF_cons (by rfl) (by go_simp; rfl) (by go_simp; rfl) (by go_simp) ?_
  exact eqF_cons (by rfl) (by go_simp; rfl) (by go_simp; rfl) (by go_simp) eqF_nil
theorem eqk27 : EqK Try.prog 27 2 := by
  refine EqK.of (by kernel_rfl) fun xs ys hx hy w => ?_
  match xs, ys, hx, hy with
  | [a, b], [c, d], _, _ =>
    have := eqA27 9998 w a c b d
    refine Eq.trans this ?_
    congr 1
    rw [Bool.eq_iff_iff]; simp
theorem eqk27' : EqK Try.prog 27 2 ↔ True := iff_true_intro eqk27
structure Sd where
  op : Int
  t : Int
  v : Int
  x : Int
  y : Int
abbrev SdC (s : Sd) : List AV := [I s.op, I s.t, I s.v, I s.x, I s.y]
abbrev SdA (s : Sd) : AV := .g (SdC s)
structure Kn where
  x : Int
  y : Int
  c : Sd
  l : Sd
abbrev KnC (k : Kn) : List AV := [I k.x, I k.y, I k.c.op, I k.c.t, I k.c.v, I k.c.x, I k.c.y, I k.l.op, I k.l.t, I k.l.v, I k.l.x, I k.l.y]
abbrev KnA (k : Kn) : AV := .g (KnC k)
abbrev Kns (l : List Kn) : AV := .ro 12 (l.map KnC)
def inT (t : Int) : Bool := decide (49152 ≤ t) && decide (t ≤ 268435455)
def okSd (s : Sd) : Bool :=
  if s.op = 3 then decide (s.t = 0) && (decide (s.v = 0) && inP (s.x, s.y))
  else decide (s.x = 0 ∧ s.y = 0) && (inT s.t && (if s.op = 0 then decide (s.v = 0) else if s.op = 1 then decide (-188743680 ≤ s.v) && decide (s.v ≤ 188743680) else if s.op = 2 then decide (0 ≤ s.v) && decide (s.v ≤ 268435455) else false))
attribute [local go_sem] eqk27'
theorem wT (t : Int) : PFun Try.prog 34 [I t, I 49152, I 268435455] (Bo (inT t)) := within34 t 49152 268435455
def inV (v : Int) : Bool := decide (-188743680 ≤ v) && decide (v ≤ 188743680)
def inK (v : Int) : Bool := decide (0 ≤ v) && decide (v ≤ 268435455)
theorem wV (t : Int) : PFun Try.prog 34 [I t, I (-188743680), I 188743680] (Bo (inV t)) := within34 t _ _
theorem wK (t : Int) : PFun Try.prog 34 [I t, I 0, I 268435455] (Bo (inK t)) := within34 t _ _
theorem side33 (s : Sd) : PFun Try.prog 33 [SdA s] (Bo (okSd s)) := by
  refine PFun.intro 400 mixed Try.func33 (by kernel_rfl) rfl (by first | exact .v _ | (simp [Cl_v, Cl_t, Cl_g, Cl_fn, Cl_rp, Cl_ro]; done) | (simp [Cl_v, Cl_t, Cl_g, Cl_fn, Cl_rp, Cl_ro, or_imp, forall_and]; done) | (split <;> simp [Cl_v, Cl_t, Cl_g, Cl_fn, Cl_rp, Cl_ro])) (Nat.le_of_ble_eq_true rfl) ?_; rw [Try.ntmps33, Try.results33]
  by_cases h0 : s.op = 0
  · simp -dsimp -implicitDefEqProofs only [go_sem, seval, h0]
    refine AtFn.pure0 (wT s.t) ?_
    cases hT : inT s.t
    · simp -dsimp -implicitDefEqProofs only [go_sem, seval]
      simp [okSd, h0, hT]
    · by_cases hv : s.v = 0
      · simp -dsimp -implicitDefEqProofs only [go_sem, seval, hv]
        simp [okSd, h0, hT, hv]
      · simp -dsimp -implicitDefEqProofs only [go_sem, seval, hv]
        simp [okSd, h0, hT, hv]
  by_cases h1 : s.op = 1
  · simp -dsimp -implicitDefEqProofs only [go_sem, seval, h1]
    refine AtFn.pure0 (wT s.t) ?_
    cases hT : inT s.t
    · simp -dsimp -implicitDefEqProofs only [go_sem, seval]
      simp [okSd, h1, hT]
    · simp -dsimp -implicitDefEqProofs only [go_sem, seval]
      refine AtFn.pure0 (wV s.v) ?_
      cases hv : inV s.v
      · simp -dsimp -implicitDefEqProofs only [go_sem, seval]
        simp [okSd, h1, hT]; intro _ _; simpa [inV] using hv
      · simp -dsimp -implicitDefEqProofs only [go_sem, seval]
        simp [okSd, h1, hT]; intro _ _; simpa [inV] using hv
  by_cases h2 : s.op = 2
  · simp -dsimp -implicitDefEqProofs only [go_sem, seval, h2]
    refine AtFn.pure0 (wT s.t) ?_
    cases hT : inT s.t
    · simp -dsimp -implicitDefEqProofs only [go_sem, seval]
      simp [okSd, h2, hT]
    · simp -dsimp -implicitDefEqProofs only [go_sem, seval]
      refine AtFn.pure0 (wK s.v) ?_
      cases hv : inK s.v
      · simp -dsimp -implicitDefEqProofs only [go_sem, seval]
        simp [okSd, h2, hT]; intro _ _; simpa [inK] using hv
      · simp -dsimp -implicitDefEqProofs only [go_sem, seval]
        simp [okSd, h2, hT]; intro _ _; simpa [inK] using hv
  by_cases h3 : s.op = 3
  · by_cases ht : s.t = 0
    · by_cases hv : s.v = 0
      · simp -dsimp -implicitDefEqProofs only [go_sem, seval, h3, ht, hv]
        refine AtFn.pure0 (placed32 (s.x, s.y)) ?_
        simp -dsimp -implicitDefEqProofs only [go_sem, seval]
        simp [okSd, h3, ht, hv]
      · simp -dsimp -implicitDefEqProofs only [go_sem, seval, h3, ht, hv]
        simp [okSd, h3, ht, hv]
    · simp -dsimp -implicitDefEqProofs only [go_sem, seval, h3, ht]
      simp [okSd, h3, ht]
  · simp -dsimp -implicitDefEqProofs only [go_sem, seval, h0, h1, h2, h3]
    simp [okSd, h0, h1, h2, h3]
theorem side30 (s : Sd) : PFun Try.prog 30 [SdA s] (Bo (okSd s)) := by
  refine PFun.intro 400 mixed Try.func30 (by kernel_rfl) rfl (by first | exact .v _ | (simp [Cl_v, Cl_t, Cl_g, Cl_fn, Cl_rp, Cl_ro]; done) | (simp [Cl_v, Cl_t, Cl_g, Cl_fn, Cl_rp, Cl_ro, or_imp, forall_and]; done) | (split <;> simp [Cl_v, Cl_t, Cl_g, Cl_fn, Cl_rp, Cl_ro])) (Nat.le_of_ble_eq_true rfl) ?_; rw [Try.ntmps30, Try.results30]
  by_cases h3 : s.op = 3
  · by_cases ht : s.t = 0
    · by_cases hv : s.v = 0
      · simp -dsimp -implicitDefEqProofs only [go_sem, seval, h3, ht, hv]
        refine AtFn.pure0 (at11 (s.x, s.y)) ?_
        simp -dsimp -implicitDefEqProofs only [go_sem, seval]
        simp [okSd, h3, ht, hv]
      · simp -dsimp -implicitDefEqProofs only [go_sem, seval, h3, ht, hv]
        simp [okSd, h3, ht, hv]
    · simp -dsimp -implicitDefEqProofs only [go_sem, seval, h3, ht]
      simp [okSd, h3, ht]
  · by_cases hz : [s.x, s.y] = [0, 0]
    · have hx : s.x = 0 ∧ s.y = 0 := by simpa using hz
      by_cases t1 : s.t < 49152
      · simp -dsimp -implicitDefEqProofs only [go_sem, seval, h3, hz, t1]
        have : inT s.t = false := by simp only [inT, Bool.and_eq_false_iff, decide_eq_false_iff_not]; omega
        simp [okSd, h3, this]
      · by_cases t2 : 268435455 < s.t
        · simp -dsimp -implicitDefEqProofs only [go_sem, seval, h3, hz, t1, t2]
          have : inT s.t = false := by simp only [inT, Bool.and_eq_false_iff, decide_eq_false_iff_not]; omega
          simp [okSd, h3, this]
        · have hT : inT s.t = true := by simp only [inT, Bool.and_eq_true, decide_eq_true_eq]; omega
          by_cases h0 : s.op = 0
          · simp -dsimp -implicitDefEqProofs only [go_sem, seval, h3, hz, t1, t2, h0]
            simp [okSd, h0, hx.1, hx.2, hT]
          by_cases h1 : s.op = 1
          · by_cases v1 : -188743680 ≤ s.v
            · simp -dsimp -implicitDefEqProofs only [go_sem, seval, h3, hz, t1, t2, h1, v1]
              simp [okSd, h1, hx.1, hx.2, hT, v1]
            · simp -dsimp -implicitDefEqProofs only [go_sem, seval, h3, hz, t1, t2, h1, v1]
              simp [okSd, h1, hx.1, hx.2, hT, v1]
          by_cases h2 : s.op = 2
          · by_cases v1 : 0 ≤ s.v
            · simp -dsimp -implicitDefEqProofs only [go_sem, seval, h3, hz, t1, t2, h2, v1]
              simp [okSd, h2, hx.1, hx.2, hT, v1]
            · simp -dsimp -implicitDefEqProofs only [go_sem, seval, h3, hz, t1, t2, h2, v1]
              simp [okSd, h2, hx.1, hx.2, hT, v1]
          · simp -dsimp -implicitDefEqProofs only [go_sem, seval, h3, hz, t1, t2, h0, h1, h2]
            simp [okSd, h3, h0, h1, h2]
    · simp -dsimp -implicitDefEqProofs only [go_sem, seval, h3, hz]
      have : ¬ (s.x = 0 ∧ s.y = 0) := fun h => hz (by rw [h.1, h.2])
      simp [okSd, h3, this]
def segs (l : List Kn) (c : Bool) : Nat := if c then l.length else l.length - 1
def zS : Sd := ⟨0, 0, 0, 0, 0⟩
def zK : Kn := ⟨0, 0, zS, zS⟩
def okKn (k : Kn) : Bool := inP (k.x, k.y) && (okSd k.c && okSd k.l)
def pairK (l : List Kn) (k : Nat) : Prop := (l.getD k zK).l.op = 3 ↔ (l.getD ((k + 1) % l.length) zK).c.op = 3
instance (l : List Kn) (k : Nat) : Decidable (pairK l k) := by unfold pairK; infer_instance
def validK (l : List Kn) (c : Bool) : Bool := decide (1 ≤ l.length) && decide (segs l c ≤ 200) && l.all okKn && decide (∀ k, k < segs l c → pairK l k)
theorem clKn (k : Kn) : ∀ s ∈ KnC k, Cl s := by
  intro s hs
  simp at hs
  rcases hs with rfl | rfl | rfl | rfl | rfl | rfl | rfl | rfl | rfl | rfl | rfl | rfl <;> exact .v _
theorem clKnsL (l : List Kn) : (∀ c ∈ l.map KnC, ∀ s ∈ c, Cl s) ↔ True := by
  simp only [iff_true]
  intro c hc s hs
  obtain ⟨k, _, rfl⟩ := List.mem_map.1 hc
  exact clKn k s hs
attribute [local go_sem] clKnsL
theorem getK {l : List Kn} {i : Nat} (h : i < l.length) : l[i]? = some (l.getD i zK) := by simp [List.getD, h]
theorem tmodN (a b : Nat) : (a : Int).tmod (b : Int) = ((a % b : Nat) : Int) := (Int.ofNat_tmod a b).symm
theorem many31 (l : List Kn) (c : Bool) (h1 : 1 ≤ l.length) (hl : l.length < 2 ^ 62) : PFun Try.prog 31 [Kns l, Bo c] (I (segs l c : Nat)) := by
  have e : wr ((l.length : Int) - 1) = ((l.length - 1 : Nat) : Int) := by rw [wr_in] <;> omega
  refine PFun.intro 400 mixed Try.func31 (by kernel_rfl) rfl (by first | exact .v _ | (simp [Cl_v, Cl_t, Cl_g, Cl_fn, Cl_rp, Cl_ro]; done) | (simp [Cl_v, Cl_t, Cl_g, Cl_fn, Cl_rp, Cl_ro, or_imp, forall_and]; done) | (split <;> simp [Cl_v, Cl_t, Cl_g, Cl_fn, Cl_rp, Cl_ro])) (Nat.le_of_ble_eq_true rfl) ?_; rw [Try.ntmps31, Try.results31]
  cases c <;> simp -dsimp -implicitDefEqProofs only [go_sem, seval, List.length_map, e] <;> rfl
theorem many31z (c : Bool) : PFun Try.prog 31 [Kns [], Bo c] (I (if c then 0 else -1)) := by
  refine PFun.intro 400 mixed Try.func31 (by kernel_rfl) rfl (by first | exact .v _ | (simp [Cl_v, Cl_t, Cl_g, Cl_fn, Cl_rp, Cl_ro]; done) | (simp [Cl_v, Cl_t, Cl_g, Cl_fn, Cl_rp, Cl_ro, or_imp, forall_and]; done) | (split <;> simp [Cl_v, Cl_t, Cl_g, Cl_fn, Cl_rp, Cl_ro])) (Nat.le_of_ble_eq_true rfl) ?_; rw [Try.ntmps31, Try.results31]
  cases c <;> simp -dsimp -implicitDefEqProofs only [go_sem, seval]
  rfl
theorem segments29 (n : Nat) (c : Bool) (h1 : 1 ≤ n) (hl : n < 2 ^ 62) : PFun Try.prog 29 [I n, Bo c] (I ((if c then n else n - 1 : Nat))) := by
  have e : wr ((n : Int) - 1) = ((n - 1 : Nat) : Int) := by rw [wr_in] <;> omega
  refine PFun.intro 400 mixed Try.func29 (by kernel_rfl) rfl (by first | exact .v _ | (simp [Cl_v, Cl_t, Cl_g, Cl_fn, Cl_rp, Cl_ro]; done) | (simp [Cl_v, Cl_t, Cl_g, Cl_fn, Cl_rp, Cl_ro, or_imp, forall_and]; done) | (split <;> simp [Cl_v, Cl_t, Cl_g, Cl_fn, Cl_rp, Cl_ro])) (Nat.le_of_ble_eq_true rfl) ?_; rw [Try.ntmps29, Try.results29]
  cases c <;> simp -dsimp -implicitDefEqProofs only [go_sem, seval, e] <;> rfl
end

section
set_option maxRecDepth 20000
attribute [local go_sem] eqk27' clKnsL
theorem notV_kn {l : List Kn} {c : Bool} {i : Nat} (hi : i < l.length) (h : okKn (l.getD i zK) = false) : validK l c = false := by
  have : l.all okKn = false := by
    rw [List.all_eq_false]
    exact ⟨_, List.mem_of_getElem? (getK hi), by simp only [h]; simp⟩
  simp [validK, this]
theorem notV_pair {l : List Kn} {c : Bool} {i : Nat} (hi : i < segs l c) (h : ¬ pairK l i) : validK l c = false := by
  have : decide (∀ k, k < segs l c → pairK l k) = false := decide_eq_false fun hh => h (hh i hi)
  simp [validK, this]
theorem notV_segs {l : List Kn} {c : Bool} (h : ¬ segs l c ≤ 200) : validK l c = false := by
  simp [validK, h]
theorem isV {l : List Kn} {c : Bool} (h1 : 1 ≤ l.length) (h2 : segs l c ≤ 200) (h3 : ∀ j, j < l.length → okKn (l.getD j zK) = true) (h4 : ∀ j, j < segs l c → pairK l j) : validK l c = true := by
  have : l.all okKn = true := by
    rw [List.all_eq_true]
    intro r hr
    obtain ⟨j, hj⟩ := List.getElem?_of_mem hr
    have hj' := (List.getElem?_eq_some_iff.1 hj).1
    have := h3 j hj'
    rw [getK hj'] at hj; cases hj; exact this
  simp only [validK, this, decide_eq_true h1, decide_eq_true h2, decide_eq_true h4, Bool.and_self]
theorem segs_le {l : List Kn} {c : Bool} : segs l c ≤ l.length := by unfold segs; split <;> omega
theorem valid17 (l : List Kn) (c : Bool) (hl : l.length < 2 ^ 62) : PFun Try.prog 17 [Kns l, Bo c] (Bo (validK l c)) := by
  by_cases hz : l.length < 1
  · have : l = [] := List.length_eq_zero_iff.1 (by omega)
    subst this
    refine PFun.intro 400 mixed Try.func17 (by kernel_rfl) rfl (by first | exact .v _ | (simp [Cl_v, Cl_t, Cl_g, Cl_fn, Cl_rp, Cl_ro]; done) | (simp [Cl_v, Cl_t, Cl_g, Cl_fn, Cl_rp, Cl_ro, or_imp, forall_and]; done) | (split <;> simp [Cl_v, Cl_t, Cl_g, Cl_fn, Cl_rp, Cl_ro])) (Nat.le_of_ble_eq_true rfl) ?_; rw [Try.ntmps17, Try.results17]
    simp -dsimp -implicitDefEqProofs only [go_sem, seval]
    refine AtFn.pure0 (many31z c) ?_
    simp -dsimp -implicitDefEqProofs only [go_sem, seval]
    rfl
  refine PFun.intro 400 mixed Try.func17 (by kernel_rfl) rfl (by first | exact .v _ | (simp [Cl_v, Cl_t, Cl_g, Cl_fn, Cl_rp, Cl_ro]; done) | (simp [Cl_v, Cl_t, Cl_g, Cl_fn, Cl_rp, Cl_ro, or_imp, forall_and]; done) | (split <;> simp [Cl_v, Cl_t, Cl_g, Cl_fn, Cl_rp, Cl_ro])) (Nat.le_of_ble_eq_true rfl) ?_; rw [Try.ntmps17, Try.results17]
  simp -dsimp -implicitDefEqProofs only [go_sem, seval]
  refine AtFn.pure0 (many31 l c (by omega) hl) ?_
  have hz' : ¬ (l.length : Int) < 1 := by omega
  by_cases hs : 200 < ((segs l c : Nat) : Int)
  · simp -dsimp -implicitDefEqProofs only [go_sem, seval, List.length_map, hz', hs]
    rw [notV_segs (by omega)]
  simp -dsimp -implicitDefEqProofs only [go_sem, seval, List.length_map, hz', hs]
  refine ⟨{i : Nat // i ≤ l.length ∧ ∀ j, j < i → okKn (l.getD j zK) = true}, fun i => ⟨66, tl [(0, Kns l), (1, Bo c), (5, I (segs l c : Nat)),(19, Kns l), (20, I l.length), (21, I i.1)], [], 0, .nil⟩, fun i => l.length - i.1,
    ⟨⟨0, by omega, by intro j h; omega⟩, Le.tl (Ls := []) (y := none) [] (by simp -dsimp -implicitDefEqProofs only [go_sem, seval]) (by simp) (by simp) (by simp) trivial⟩, fun i => ?_⟩
  obtain ⟨i, hi, hall⟩ := i
  simp -dsimp -implicitDefEqProofs only [go_sem, seval, List.length_map]
  refine ⟨fun h => ?_, fun hout => ?_⟩
  · have hlt : i < l.length := by omega
    have e3 : wr ((i : Int) + 1) = ((i + 1 : Nat) : Int) := by rw [wr_in] <;> omega
    obtain ⟨k, hk⟩ : ∃ k, k = l.getD i zK := ⟨_, rfl⟩
    have hg : l[i]? = some k := hk ▸ getK hlt
    have hbad : okKn k = false → Bo false = Bo (validK l c) := fun hb => by rw [notV_kn hlt (hk ▸ hb)]
    simp -dsimp -implicitDefEqProofs only [go_sem, seval, List.getElem?_map, Int.toNat_natCast, Int.natCast_nonneg, hg]
    refine AtFn.pure0 (placed32 (k.x, k.y)) ?_
    cases b1 : inP (k.x, k.y)
    · simp -dsimp -implicitDefEqProofs only [go_sem, seval]
      exact hbad (by simp only [okKn, b1, Bool.false_and])
    simp -dsimp -implicitDefEqProofs only [go_sem, seval]
    refine AtFn.pure0 (side33 k.c) ?_
    cases b2 : okSd k.c
    · simp -dsimp -implicitDefEqProofs only [go_sem, seval]
      exact hbad (by simp only [okKn, b2, Bool.false_and, Bool.and_false])
    simp -dsimp -implicitDefEqProofs only [go_sem, seval]
    refine AtFn.pure0 (side33 k.l) ?_
    cases b3 : okSd k.l
    · simp -dsimp -implicitDefEqProofs only [go_sem, seval]
      exact hbad (by simp only [okKn, b3, Bool.and_false])
    simp -dsimp -implicitDefEqProofs only [go_sem, seval]
    refine ⟨⟨i + 1, by omega, fun j hj => ?_⟩, by show l.length - (i + 1) < l.length - i; omega, Le.tl (Ls := []) (y := none) [] (by simp -dsimp -implicitDefEqProofs only [go_sem, seval, e3]) (by simp) (by simp) (by simp) trivial⟩
    by_cases hji : j = i
    · subst hji; rw [← hk]; simp only [okKn, b1, b2, b3, Bool.and_self]
    · exact hall j (by omega)
  have hil : i = l.length := by omega
  subst hil
  refine ⟨{i : Nat // i ≤ segs l c ∧ ∀ j, j < i → pairK l j}, fun i => ⟨66, tl [(0, Kns l), (42, I (segs l c : Nat)), (43, I i.1)], [], 0, .nil⟩, fun i => segs l c - i.1,
    ⟨⟨0, by omega, by intro j h; omega⟩, Le.tl (Ls := []) (y := none) [] (by simp -dsimp -implicitDefEqProofs only [go_sem, seval]) (by simp) (by simp) (by simp) trivial⟩, fun i => ?_⟩
  obtain ⟨i, hi2, hal2⟩ := i
  have hsl := segs_le (l := l) (c := c)
  simp -dsimp -implicitDefEqProofs only [go_sem, seval, List.length_map]
  refine ⟨fun h => ?_, fun hout2 => ?_⟩
  · have hlt : i < l.length := by omega
    have hm : (i + 1) % l.length < l.length := Nat.mod_lt _ (by omega)
    have e3 : wr ((i : Int) + 1) = ((i + 1 : Nat) : Int) := by rw [wr_in] <;> omega
    have e4 : wr ((((i + 1) % l.length : Nat)) : Int) = (((i + 1) % l.length : Nat) : Int) := by rw [wr_in] <;> omega
    have e5 : ¬ (l.length : Int) = 0 := by omega
    refine AtCode.draw 19 [([], []), ([], []), ([0, 1], []), ([0, 1, 2], []), ([0, 1, 2, 3], []), ([0, 1, 2, 3, 4], []), ([0, 1, 2, 3, 4, 5], []), ([], []), ([], []), ([8], []), ([], []), ([10], []), ([8, 9, 10, 11], []), ([7, 8, 9, 10, 11, 12], []), ([7, 8, 9, 10, 11, 12, 13], []), ([7, 8, 9, 10, 11, 12, 13, 14], []), ([7, 8, 9, 10, 11, 12, 13, 14, 15], []), ([7, 8, 9, 10, 11, 12, 13, 14, 15, 16], []), ([0, 1, 2, 3, 4, 5, 6, 7, 8, 9, 10, 11, 12, 13, 14, 15, 16, 17], [])] (by kernel_rfl) ?_
    simp -dsimp -implicitDefEqProofs only [go_sem, seval, List.getElem?_map, Int.toNat_natCast, Int.natCast_nonneg, getK hlt, getK hm, List.length_map, e3, tmodN, e4, e5]
    cases hb : (decide ((l.getD i zK).l.op = 3) == decide ((l.getD ((i + 1) % l.length) zK).c.op = 3))
    · simp -dsimp -implicitDefEqProofs only [go_sem, seval]
      have : ¬ pairK l i := by
        unfold pairK
        intro hh
        have : decide ((l.getD i zK).l.op = 3) = decide ((l.getD ((i + 1) % l.length) zK).c.op = 3) := decide_eq_decide.2 hh
        rw [this, beq_self_eq_true] at hb
        cases hb
      rw [notV_pair (by omega) this]
    · simp -dsimp -implicitDefEqProofs only [go_sem, seval]
      refine ⟨⟨i + 1, by omega, fun j hj => ?_⟩, by show segs l c - (i + 1) < segs l c - i; omega, Le.tl (Ls := []) (y := none) [] (by simp -dsimp -implicitDefEqProofs only [go_sem, seval, e3]) (by simp) (by simp) (by simp) trivial⟩
      by_cases hji : j = i
      · subst hji
        have hb2 : decide ((l.getD j zK).l.op = 3) = decide ((l.getD ((j + 1) % l.length) zK).c.op = 3) := eq_of_beq hb
        exact decide_eq_decide.1 hb2
      · exact hal2 j (by omega)
  · rw [isV (by omega) (by omega) hall (fun j hj => hal2 j (by omega))]
theorem valid16 (l : List Kn) (c : Bool) (hl : l.length < 2 ^ 62) : PFun Try.prog 16 [Kns l, Bo c] (Bo (validK l c)) := by
  by_cases hz : l.length < 1
  · have : l = [] := List.length_eq_zero_iff.1 (by omega)
    subst this
    refine PFun.intro 400 mixed Try.func16 (by kernel_rfl) rfl (by first | exact .v _ | (simp [Cl_v, Cl_t, Cl_g, Cl_fn, Cl_rp, Cl_ro]; done) | (simp [Cl_v, Cl_t, Cl_g, Cl_fn, Cl_rp, Cl_ro, or_imp, forall_and]; done) | (split <;> simp [Cl_v, Cl_t, Cl_g, Cl_fn, Cl_rp, Cl_ro])) (Nat.le_of_ble_eq_true rfl) ?_; rw [Try.ntmps16, Try.results16]
    simp -dsimp -implicitDefEqProofs only [go_sem, seval]
    rfl
  have hsg : PFun Try.prog 29 [I l.length, Bo c] (I (segs l c : Nat)) := segments29 l.length c (by omega) hl
  refine PFun.intro 400 mixed Try.func16 (by kernel_rfl) rfl (by first | exact .v _ | (simp [Cl_v, Cl_t, Cl_g, Cl_fn, Cl_rp, Cl_ro]; done) | (simp [Cl_v, Cl_t, Cl_g, Cl_fn, Cl_rp, Cl_ro, or_imp, forall_and]; done) | (split <;> simp [Cl_v, Cl_t, Cl_g, Cl_fn, Cl_rp, Cl_ro])) (Nat.le_of_ble_eq_true rfl) ?_; rw [Try.ntmps16, Try.results16]
  have hz' : ¬ (l.length : Int) < 1 := by omega
  simp -dsimp -implicitDefEqProofs only [go_sem, seval, List.length_map, hz']
  refine AtFn.pure0 hsg ?_
  by_cases hs : 200 < ((segs l c : Nat) : Int)
  · simp -dsimp -implicitDefEqProofs only [go_sem, seval, List.length_map, hz', hs]
    rw [notV_segs (by omega)]
  simp -dsimp -implicitDefEqProofs only [go_sem, seval, List.length_map, hz', hs]
  refine ⟨{i : Nat // i ≤ l.length ∧ ∀ j, j < i → okKn (l.getD j zK) = true}, fun i => ⟨68, tl [(0, Kns l), (1, Bo c), (18, Kns l), (19, I l.length), (20, I i.1)], [], 0, .nil⟩, fun i => l.length - i.1,
    ⟨⟨0, by omega, by intro j h; omega⟩, Le.tl (Ls := []) (y := none) [] (by simp -dsimp -implicitDefEqProofs only [go_sem, seval]) (by simp) (by simp) (by simp) trivial⟩, fun i => ?_⟩
  obtain ⟨i, hi, hall⟩ := i
  simp -dsimp -implicitDefEqProofs only [go_sem, seval, List.length_map]
  refine ⟨fun h => ?_, fun hout => ?_⟩
  · have hlt : i < l.length := by omega
    have e3 : wr ((i : Int) + 1) = ((i + 1 : Nat) : Int) := by rw [wr_in] <;> omega
    obtain ⟨k, hk⟩ : ∃ k, k = l.getD i zK := ⟨_, rfl⟩
    have hg : l[i]? = some k := hk ▸ getK hlt
    have hbad : okKn k = false → Bo false = Bo (validK l c) := fun hb => by rw [notV_kn hlt (hk ▸ hb)]
    simp -dsimp -implicitDefEqProofs only [go_sem, seval, List.getElem?_map, Int.toNat_natCast, Int.natCast_nonneg, hg]
    refine AtFn.pure0 (at11 (k.x, k.y)) ?_
    cases b1 : inP (k.x, k.y)
    · simp -dsimp -implicitDefEqProofs only [go_sem, seval]
      exact hbad (by simp only [okKn, b1, Bool.false_and])
    simp -dsimp -implicitDefEqProofs only [go_sem, seval]
    refine AtFn.pure0 (side30 k.c) ?_
    cases b2 : okSd k.c
    · simp -dsimp -implicitDefEqProofs only [go_sem, seval]
      exact hbad (by simp only [okKn, b2, Bool.false_and, Bool.and_false])
    simp -dsimp -implicitDefEqProofs only [go_sem, seval]
    refine AtFn.pure0 (side30 k.l) ?_
    cases b3 : okSd k.l
    · simp -dsimp -implicitDefEqProofs only [go_sem, seval]
      exact hbad (by simp only [okKn, b3, Bool.and_false])
    simp -dsimp -implicitDefEqProofs only [go_sem, seval]
    refine ⟨⟨i + 1, by omega, fun j hj => ?_⟩, by show l.length - (i + 1) < l.length - i; omega, Le.tl (Ls := []) (y := none) [] (by simp -dsimp -implicitDefEqProofs only [go_sem, seval, e3]) (by simp) (by simp) (by simp) trivial⟩
    by_cases hji : j = i
    · subst hji; rw [← hk]; simp only [okKn, b1, b2, b3, Bool.and_self]
    · exact hall j (by omega)
  have hil : i = l.length := by omega
  subst hil
  refine ⟨{i : Nat // i ≤ segs l c ∧ ∀ j, j < i → pairK l j}, fun i => ⟨68, tl [(0, Kns l), (1, Bo c), (7, I i.1)], [], 0, .nil⟩, fun i => segs l c - i.1,
    ⟨⟨0, by omega, by intro j h; omega⟩, Le.tl (Ls := []) (y := none) [] (by simp -dsimp -implicitDefEqProofs only [go_sem, seval]) (by simp) (by simp) (by simp) trivial⟩, fun i => ?_⟩
  obtain ⟨i, hi2, hal2⟩ := i
  have hsl := segs_le (l := l) (c := c)
  simp -dsimp -implicitDefEqProofs only [go_sem, seval, List.length_map]
  refine AtFn.pure0 hsg ?_
  simp -dsimp -implicitDefEqProofs only [go_sem, seval]
  refine ⟨fun h => ?_, fun hout2 => ?_⟩
  · have hlt : i < l.length := by omega
    have hm : (i + 1) % l.length < l.length := Nat.mod_lt _ (by omega)
    have e3 : wr ((i : Int) + 1) = ((i + 1 : Nat) : Int) := by rw [wr_in] <;> omega
    have e4 : wr ((((i + 1) % l.length : Nat)) : Int) = (((i + 1) % l.length : Nat) : Int) := by rw [wr_in] <;> omega
    have e5 : ¬ (l.length : Int) = 0 := by omega
    refine AtCode.draw 19 [([], []), ([], []), ([0, 1], []), ([0, 1, 2], []), ([0, 1, 2, 3], []), ([0, 1, 2, 3, 4], []), ([0, 1, 2, 3, 4, 5], []), ([], []), ([], []), ([8], []), ([], []), ([10], []), ([8, 9, 10, 11], []), ([7, 8, 9, 10, 11, 12], []), ([7, 8, 9, 10, 11, 12, 13], []), ([7, 8, 9, 10, 11, 12, 13, 14], []), ([7, 8, 9, 10, 11, 12, 13, 14, 15], []), ([7, 8, 9, 10, 11, 12, 13, 14, 15, 16], []), ([0, 1, 2, 3, 4, 5, 6, 7, 8, 9, 10, 11, 12, 13, 14, 15, 16, 17], [])] (by kernel_rfl) ?_
    simp -dsimp -implicitDefEqProofs only [go_sem, seval, List.getElem?_map, Int.toNat_natCast, Int.natCast_nonneg, getK hlt, getK hm, List.length_map, e3, tmodN, e4, e5]
    cases hb : (decide ((l.getD i zK).l.op = 3) == decide ((l.getD ((i + 1) % l.length) zK).c.op = 3))
    · simp -dsimp -implicitDefEqProofs only [go_sem, seval]
      have : ¬ pairK l i := by
        unfold pairK
        intro hh
        have : decide ((l.getD i zK).l.op = 3) = decide ((l.getD ((i + 1) % l.length) zK).c.op = 3) := decide_eq_decide.2 hh
        rw [this, beq_self_eq_true] at hb
        cases hb
      rw [notV_pair (by omega) this]
    · simp -dsimp -implicitDefEqProofs only [go_sem, seval]
      refine ⟨⟨i + 1, by omega, fun j hj => ?_⟩, by show segs l c - (i + 1) < segs l c - i; omega, Le.tl (Ls := []) (y := none) [] (by simp -dsimp -implicitDefEqProofs only [go_sem, seval, e3]) (by simp) (by simp) (by simp) trivial⟩
      by_cases hji : j = i
      · subst hji
        have hb2 : decide ((l.getD j zK).l.op = 3) = decide ((l.getD ((j + 1) % l.length) zK).c.op = 3) := eq_of_beq hb
        exact decide_eq_decide.1 hb2
      · exact hal2 j (by omega)
  · rw [isV (by omega) (by omega) hall (fun j hj => hal2 j (by omega))]
end

section
set_option maxRecDepth 20000
theorem floorZ_eq (x y : Int) (hy : 0 < y) (hx : -9223372036854775808 < x) (hx2 : x ≤ 9223372036854775807) : floorZ x y = x / y := by
  have hq : -9223372036854775808 < x.tdiv y ∧ x.tdiv y ≤ 9223372036854775807 := by
    have h1 := Int.natAbs_tdiv_le_natAbs x y
    omega
  have hm := Int.tdiv_mul_add_tmod x y
  have hlt := Int.tmod_lt_of_pos x hy
  have hgt := Int.lt_tmod_of_pos x hy
  unfold floorZ
  split
  · rename_i h
    rw [wr_sub_l, wr_in (by omega) (by omega)]
    refine (Int.ediv_eq_iff_of_pos hy).2 ?_ |>.symm
    constructor <;> grind
  · rename_i h
    rw [wr_in (by omega) (by omega)]
    refine (Int.ediv_eq_iff_of_pos hy).2 ?_ |>.symm
    constructor <;> grind
def rnd (p q : Int) : Int := (2 * p + q) / (2 * q)
theorem rnd_lo {p q : Int} (hq : 0 < q) {n : Int} (h : n * (2 * q) ≤ 2 * p + q) : n ≤ rnd p q := Int.le_ediv_of_mul_le (by omega) h
theorem rnd_hi {p q : Int} (hq : 0 < q) {n : Int} (h : 2 * p + q < (n + 1) * (2 * q)) : rnd p q ≤ n := Int.lt_add_one_iff.1 (Int.ediv_lt_of_lt_mul (by omega) h)
theorem rnd_bd {p q : Int} (hq : 0 < q) : -(p.natAbs : Int) - 1 ≤ rnd p q ∧ rnd p q ≤ p.natAbs + 1 := by
  constructor
  · refine rnd_lo hq ?_
    have : (-(p.natAbs : Int) - 1) * (2 * q) ≤ (-(p.natAbs : Int) - 1) * 2 := Int.mul_le_mul_of_nonpos_left (by omega) (by omega)
    have h2 : -(p.natAbs : Int) * q ≤ -(p.natAbs : Int) * 1 := Int.mul_le_mul_of_nonpos_left (by omega) (by omega)
    grind
  · refine rnd_hi hq ?_
    have h2 : (p.natAbs : Int) * 1 ≤ (p.natAbs : Int) * q := Int.mul_le_mul_of_nonneg_left (by omega) (by omega)
    grind
theorem mul_bd {a b A B : Int} (h1 : -A ≤ a) (h2 : a ≤ A) (h3 : -B ≤ b) (h4 : b ≤ B) : -(A * B) ≤ a * b ∧ a * b ≤ A * B := by
  have hn : (a * b).natAbs ≤ A.natAbs * B.natAbs := by
    rw [Int.natAbs_mul]; exact Nat.mul_le_mul (by omega) (by omega)
  have e : (A * B).natAbs = A.natAbs * B.natAbs := Int.natAbs_mul ..
  have hp : 0 ≤ A * B := Int.mul_nonneg (by omega) (by omega)
  omega
def pr (p q : Int) : Int := (p * q + 134217728) / 268435456
theorem pr_bd {p q A : Int} (h : -(A * 268435456) ≤ p * q ∧ p * q ≤ A * 268435456) : -A ≤ pr p q ∧ pr p q ≤ A := by unfold pr; omega
theorem product52p (p q : Int) (h : -2305843009213693952 ≤ p * q ∧ p * q ≤ 2305843009213693952) : PFun Try.prog 52 [I p, I q] (I (pr p q)) := by
  have := product52 p q
  unfold prodW at this
  rw [wr_in (x := p * q) (by omega) (by omega), wr_in (by omega) (by omega), floorZ_eq _ _ (by decide) (by omega) (by omega)] at this
  exact this
theorem round50p (a b : Int) (hb : 0 < b) (hb2 : b ≤ 2305843009213693952) (h : -2305843009213693952 ≤ a ∧ a ≤ 2305843009213693952) : PFun Try.prog 50 [I a, I b] (I (rnd a b)) := by
  have := round50 a b (by rw [wr_in (by omega) (by omega)]; omega)
  unfold roundW at this
  rw [wr_in (x := 2 * a) (by omega) (by omega), wr_in (x := 2 * a + b) (by omega) (by omega), wr_in (x := 2 * b) (by omega) (by omega), floorZ_eq _ _ (by omega) (by omega) (by omega)] at this
  exact this
theorem floor53p (a : Int) (h : -2305843009213693952 ≤ a ∧ a ≤ 2305843009213693952) : PFun Try.prog 53 [I a, I 16] (I (a / 16)) := by
  have := floor53 a 16 (by decide)
  rw [floorZ_eq _ _ (by decide) (by omega) (by omega)] at this
  exact this
end

section
set_option maxRecDepth 20000
def inF (n : Int) : Prop := -268435456 ≤ n ∧ n ≤ 268435456
def velN (st ct sf cf : Int) : Int := 536870912 + pr (pr (pr (st - sf / 16) (sf - st / 16)) (ct - cf)) 379625062
def velQ (ct cf : Int) : Int := 805306368 + pr ct 497706707 + pr cf 307599661
def velW (st ct sf cf t : Int) : Int := if 4 * velQ ct cf ≤ rnd (velN st ct sf cf * 65536) t then 1073741824 else rnd (rnd (velN st ct sf cf * 65536) t * 268435456) (velQ ct cf)
structure VelB (st ct sf cf t : Int) : Prop where
  a1 : -285212672 ≤ st - sf / 16 ∧ st - sf / 16 ≤ 285212672
  a2 : -285212672 ≤ sf - st / 16 ∧ sf - st / 16 ≤ 285212672
  m1 : -(303038464 * 268435456) ≤ (st - sf / 16) * (sf - st / 16) ∧ (st - sf / 16) * (sf - st / 16) ≤ 303038464 * 268435456
  p1 : -303038464 ≤ pr (st - sf / 16) (sf - st / 16) ∧ pr (st - sf / 16) (sf - st / 16) ≤ 303038464
  a3 : -536870912 ≤ ct - cf ∧ ct - cf ≤ 536870912
  m2 : -(606076928 * 268435456) ≤ pr (st - sf / 16) (sf - st / 16) * (ct - cf) ∧ pr (st - sf / 16) (sf - st / 16) * (ct - cf) ≤ 606076928 * 268435456
  p2 : -606076928 ≤ pr (pr (st - sf / 16) (sf - st / 16)) (ct - cf) ∧ pr (pr (st - sf / 16) (sf - st / 16)) (ct - cf) ≤ 606076928
  p3 : -857200000 ≤ pr (pr (pr (st - sf / 16) (sf - st / 16)) (ct - cf)) 379625062 ∧ pr (pr (pr (st - sf / 16) (sf - st / 16)) (ct - cf)) 379625062 ≤ 857200000
  n0 : -320329088 ≤ velN st ct sf cf ∧ velN st ct sf cf ≤ 1394070912
  n : -1858761217 ≤ rnd (velN st ct sf cf * 65536) t ∧ rnd (velN st ct sf cf * 65536) t ≤ 1858761217
  q1 : -497706707 ≤ pr ct 497706707 ∧ pr ct 497706707 ≤ 497706707
  q2 : -307599661 ≤ pr cf 307599661 ∧ pr cf 307599661 ≤ 307599661
  q : 0 ≤ velQ ct cf ∧ velQ ct cf ≤ 1610612736
  pos : ¬ 4 * velQ ct cf ≤ rnd (velN st ct sf cf * 65536) t → 0 < velQ ct cf
theorem vel_b {st ct sf cf t : Int} (h1 : inF st) (h2 : inF ct) (h3 : inF sf) (h4 : inF cf) (ht : 49152 ≤ t) : VelB st ct sf cf t := by
  unfold inF at h1 h2 h3 h4
  have a1 : -285212672 ≤ st - sf / 16 ∧ st - sf / 16 ≤ 285212672 := by omega
  have a2 : -285212672 ≤ sf - st / 16 ∧ sf - st / 16 ≤ 285212672 := by omega
  have m1 := mul_bd a1.1 a1.2 a2.1 a2.2
  have m1' : -(303038464 * 268435456) ≤ (st - sf / 16) * (sf - st / 16) ∧ (st - sf / 16) * (sf - st / 16) ≤ 303038464 * 268435456 := by omega
  have p1 := pr_bd m1'
  have a3 : -536870912 ≤ ct - cf ∧ ct - cf ≤ 536870912 := by omega
  have m2 := mul_bd p1.1 p1.2 a3.1 a3.2
  have m2' : -(606076928 * 268435456) ≤ pr (st - sf / 16) (sf - st / 16) * (ct - cf) ∧ pr (st - sf / 16) (sf - st / 16) * (ct - cf) ≤ 606076928 * 268435456 := by omega
  have p2 := pr_bd m2'
  have p3 := pr_bd (p := pr (pr (st - sf / 16) (sf - st / 16)) (ct - cf)) (q := 379625062) (A := 857200000) (by omega)
  have n0 : -320329088 ≤ velN st ct sf cf ∧ velN st ct sf cf ≤ 1394070912 := by unfold velN; omega
  have htt : 1858761217 * (2 * 49152) ≤ 1858761217 * (2 * t) := Int.mul_le_mul_of_nonneg_left (by omega) (by decide)
  have n : -1858761217 ≤ rnd (velN st ct sf cf * 65536) t ∧ rnd (velN st ct sf cf * 65536) t ≤ 1858761217 := by
    refine ⟨rnd_lo (by omega) (by omega), rnd_hi (by omega) (by omega)⟩
  have q1 := pr_bd (p := ct) (q := 497706707) (A := 497706707) (by omega)
  have q2 := pr_bd (p := cf) (q := 307599661) (A := 307599661) (by omega)
  refine ⟨a1, a2, m1', p1, a3, m2', p2, p3, n0, n, q1, q2, by unfold velQ; omega, fun h => ?_⟩
  by_cases h0 : 0 < velQ ct cf
  · exact h0
  have hq : velQ ct cf = 0 := by unfold velQ at h0 ⊢; omega
  have c1 : ct = -268435456 := by unfold velQ pr at hq; omega
  have c2 : cf = -268435456 := by unfold velQ pr at hq; omega
  have z : velN st ct sf cf = 536870912 := by
    unfold velN
    rw [c1, c2, Int.sub_self]
    have : pr (pr (st - sf / 16) (sf - st / 16)) 0 = 0 := by unfold pr; rw [Int.mul_zero]; decide
    rw [this]; decide
  have : 0 ≤ rnd (velN st ct sf cf * 65536) t := rnd_lo (by omega) (by rw [z]; omega)
  omega
theorem vel_bd {st ct sf cf t : Int} (h1 : inF st) (h2 : inF ct) (h3 : inF sf) (h4 : inF cf) (ht : 49152 ≤ t) : -2147483648 ≤ velW st ct sf cf t ∧ velW st ct sf cf t ≤ 1073741824 := by
  have B := vel_b h1 h2 h3 h4 ht
  unfold inF at h1 h2 h3 h4
  unfold velW
  split
  · omega
  · rename_i h
    have hq := B.pos h
    refine ⟨?_, rnd_hi hq (by omega)⟩
    by_cases hn : 0 ≤ rnd (velN st ct sf cf * 65536) t
    · have : 0 ≤ rnd (rnd (velN st ct sf cf * 65536) t * 268435456) (velQ ct cf) := rnd_lo hq (by omega)
      omega
    · have hn0 : velN st ct sf cf < 0 := by
        by_cases hh : velN st ct sf cf < 0
        · exact hh
        · exact absurd (rnd_lo (p := velN st ct sf cf * 65536) (q := t) (n := 0) (by omega) (by omega)) hn
      have e3 : pr (pr (pr (st - sf / 16) (sf - st / 16)) (ct - cf)) 379625062 < -536870912 := by unfold velN at hn0; omega
      have e2 : pr (pr (st - sf / 16) (sf - st / 16)) (ct - cf) < -379625060 := by
        generalize pr (pr (st - sf / 16) (sf - st / 16)) (ct - cf) = x at e3 ⊢
        unfold pr at e3; omega
      have hp := B.p1
      have e1 : ct - cf ≤ -336000000 ∨ 336000000 ≤ ct - cf := by
        generalize pr (st - sf / 16) (sf - st / 16) = y at e2 hp
        by_cases hc : -336000000 ≤ ct - cf ∧ ct - cf ≤ 336000000
        · have := mul_bd hp.1 hp.2 hc.1 hc.2
          unfold pr at e2; omega
        · omega
      have hq2 : 385000000 ≤ velQ ct cf := by
        unfold velQ pr; omega
      have hN := B.n
      exact rnd_lo hq (by omega)
end

section
set_option maxRecDepth 20000
theorem vel35 (st ct sf cf t : Int) (h1 : inF st) (h2 : inF ct) (h3 : inF sf) (h4 : inF cf) (ht : 49152 ≤ t) (ht2 : t ≤ 268435455) : PFun Try.prog 35 [I st, I ct, I sf, I cf, I t] (I (velW st ct sf cf t)) := by
  have B := vel_b h1 h2 h3 h4 ht
  have hq := B.q
  have hn := B.n
  have hpos := B.pos
  have hn0 := B.n0
  obtain ⟨a1, a2, m1, p1, a3, m2, p2, p3, _, _, q1, q2, _, _⟩ := B
  unfold inF at h1 h2 h3 h4
  have w1 : wr (st - sf / 16) = st - sf / 16 := wr_in (by omega) (by omega)
  have w2 : wr (sf - st / 16) = sf - st / 16 := wr_in (by omega) (by omega)
  have w3 : wr (ct - cf) = ct - cf := wr_in (by omega) (by omega)
  have w4 : wr (536870912 + pr (pr (pr (st - sf / 16) (sf - st / 16)) (ct - cf)) 379625062) = velN st ct sf cf := wr_in (by omega) (by omega)
  have w5 : wr (velN st ct sf cf * 65536) = velN st ct sf cf * 65536 := wr_in (by omega) (by omega)
  have w6 : wr (805306368 + pr ct 497706707) = 805306368 + pr ct 497706707 := wr_in (by omega) (by omega)
  have w7 : wr (805306368 + pr ct 497706707 + pr cf 307599661) = velQ ct cf := wr_in (by omega) (by omega)
  have w8 : wr (4 * velQ ct cf) = 4 * velQ ct cf := wr_in (by omega) (by omega)
  have w9 : wr (rnd (velN st ct sf cf * 65536) t * 268435456) = rnd (velN st ct sf cf * 65536) t * 268435456 := wr_in (by omega) (by omega)
  refine PFun.intro 400 mixed Try.func35 (by kernel_rfl) rfl (by first | exact .v _ | (simp [Cl_v, Cl_t, Cl_g, Cl_fn, Cl_rp, Cl_ro]; done) | (simp [Cl_v, Cl_t, Cl_g, Cl_fn, Cl_rp, Cl_ro, or_imp, forall_and]; done) | (split <;> simp [Cl_v, Cl_t, Cl_g, Cl_fn, Cl_rp, Cl_ro])) (Nat.le_of_ble_eq_true rfl) ?_; rw [Try.ntmps35, Try.results35]
  simp -dsimp -implicitDefEqProofs only [go_sem, seval]
  refine AtFn.pure0 (floor53p sf (by omega)) ?_
  simp -dsimp -implicitDefEqProofs only [go_sem, seval, w1]
  refine AtFn.pure0 (floor53p st (by omega)) ?_
  simp -dsimp -implicitDefEqProofs only [go_sem, seval, w2]
  refine AtFn.pure0 (product52p _ _ (by omega)) ?_
  simp -dsimp -implicitDefEqProofs only [go_sem, seval, w3]
  refine AtFn.pure0 (product52p _ _ (by omega)) ?_
  simp -dsimp -implicitDefEqProofs only [go_sem, seval]
  refine AtFn.pure0 (product52p _ _ (by omega)) ?_
  simp -dsimp -implicitDefEqProofs only [go_sem, seval, w4, w5]
  refine AtFn.pure0 (round50p _ _ (by omega) (by omega) (by omega)) ?_
  simp -dsimp -implicitDefEqProofs only [go_sem, seval]
  refine AtFn.pure0 (product52p _ _ (by omega)) ?_
  simp -dsimp -implicitDefEqProofs only [go_sem, seval, w6]
  refine AtFn.pure0 (product52p _ _ (by omega)) ?_
  simp -dsimp -implicitDefEqProofs only [go_sem, seval, w7, w8]
  refine ⟨fun h => ?_, fun h => ?_⟩
  · unfold velW; rw [if_pos h]
  · simp -dsimp -implicitDefEqProofs only [go_sem, seval, w9]
    refine AtFn.pure0 (round50p _ _ (hpos h) (by omega) (by omega)) ?_
    simp -dsimp -implicitDefEqProofs only [go_sem, seval]
    unfold velW; rw [if_neg h]
def inFb (n : Int) : Bool := decide (-268435456 ≤ n) && decide (n ≤ 268435456)
theorem inF_iff (n : Int) : inFb n = true ↔ inF n := by simp [inFb, inF]
theorem wF (t : Int) : PFun Try.prog 34 [I t, I (-268435456), I 268435456] (Bo (inFb t)) := within34 t _ _
def okVel (st ct sf cf t : Int) : Bool := inFb st && (inFb ct && (inFb sf && (inFb cf && inT t)))
def velR (st ct sf cf t : Int) : AV := if okVel st ct sf cf t then .t [I (velW st ct sf cf t), I 0] else .t [I 0, I 2]
theorem clVelR (st ct sf cf t : Int) : Cl (velR st ct sf cf t) := by
  unfold velR
  split <;> simp [Cl_t, Cl_v]
theorem okVel_iff {st ct sf cf t : Int} (h : okVel st ct sf cf t = true) : inF st ∧ inF ct ∧ inF sf ∧ inF cf ∧ 49152 ≤ t ∧ t ≤ 268435455 := by
  simp only [okVel, Bool.and_eq_true, inF_iff, inT, decide_eq_true_eq] at h; exact h
abbrev Ints (l : List Int) : AV := .ro 1 (l.map fun x => [I x])
theorem clIntsL (l : List Int) : (∀ c ∈ l.map (fun x => [I x]), ∀ s ∈ c, Cl s) ↔ True := iff_true_intro (fun c hc s hs => by obtain ⟨r, _, rfl⟩ := List.mem_map.1 hc; simp at hs; subst hs; exact .v _)
theorem getI {l : List Int} {i : Nat} (h : i < l.length) : l[i]? = some (l.getD i 0) := by simp [List.getD, h]
attribute [local go_sem] clIntsL
theorem okVel_not {st ct sf cf t : Int} {i : Nat} (hi : i < 4) (h : inFb ([st, ct, sf, cf].getD i 0) = false) : okVel st ct sf cf t = false := by
  unfold okVel
  match i, hi with
  | 0, _ => simp at h; simp [h]
  | 1, _ => simp at h; simp [h]
  | 2, _ => simp at h; simp [h]
  | 3, _ => simp at h; simp [h]
theorem velocity18 (st ct sf cf t : Int) : PFun Try.prog 18 [I st, I ct, I sf, I cf, I t] (velR st ct sf cf t) := by
  refine PFun.intro 400 mixed Try.func18 (by kernel_rfl) rfl (clVelR st ct sf cf t) (Nat.le_of_ble_eq_true rfl) ?_; rw [Try.ntmps18, Try.results18]
  simp -dsimp -implicitDefEqProofs only [go_sem, seval]
  refine ⟨{i : Nat // i ≤ 4 ∧ ∀ j, j < i → inFb ([st, ct, sf, cf].getD j 0) = true}, fun i => ⟨37, tl [(0, I st), (1, I ct), (2, I sf), (3, I cf), (4, I t), (18, Ints [st, ct, sf, cf]), (19, I 4), (20, I i.1)], [], 0, .nil⟩, fun i => 4 - i.1,
    ⟨⟨0, by omega, by intro j h; omega⟩, Le.ftl (Ls := []) (y := none) [0] [] (by simp -dsimp -implicitDefEqProofs only [go_sem, seval, fz]) (by simp) (by simp) (by simp) trivial⟩, fun i => ?_⟩
  obtain ⟨i, hi, hall⟩ := i
  simp -dsimp -implicitDefEqProofs only [go_sem, seval]
  refine ⟨fun h => ?_, fun hout => ?_⟩
  · have hlt : i < 4 := by omega
    have hl4 : i < ([st, ct, sf, cf] : List Int).length := hlt
    have e3 : wr ((i : Int) + 1) = ((i + 1 : Nat) : Int) := by rw [wr_in] <;> omega
    have hg : (([st, ct, sf, cf] : List Int).map fun x => [I x])[i]? = some [I (([st, ct, sf, cf] : List Int).getD i 0)] := by
      rw [List.getElem?_map, getI hl4]; rfl
    simp only [List.map_cons, List.map_nil] at hg
    simp -dsimp -implicitDefEqProofs only [go_sem, seval, Int.toNat_natCast, Int.natCast_nonneg, hg]
    refine AtFn.pure0 (wF _) ?_
    cases hb : inFb (([st, ct, sf, cf] : List Int).getD i 0)
    · simp -dsimp -implicitDefEqProofs only [go_sem, seval]
      unfold velR
      rw [okVel_not hlt hb]
      rfl
    · simp -dsimp -implicitDefEqProofs only [go_sem, seval]
      refine ⟨⟨i + 1, by omega, fun j hj => ?_⟩, by show 4 - (i + 1) < 4 - i; omega, Le.tl (Ls := []) (y := none) [] (by simp -dsimp -implicitDefEqProofs only [go_sem, seval, e3]) (by simp) (by simp) (by simp) trivial⟩
      by_cases hji : j = i
      · subst hji; exact hb
      · exact hall j (by omega)
  · have hi4 : i = 4 := by omega
    subst hi4
    have b0 := hall 0 (by omega)
    have b1 := hall 1 (by omega)
    have b2 := hall 2 (by omega)
    have b3 := hall 3 (by omega)
    simp at b0 b1 b2 b3
    refine AtFn.pure0 (wT t) ?_
    cases hT : inT t
    · simp -dsimp -implicitDefEqProofs only [go_sem, seval]
      simp [velR, okVel, b0, b1, b2, b3, hT]
    · simp -dsimp -implicitDefEqProofs only [go_sem, seval]
      have hk : okVel st ct sf cf t = true := by simp [okVel, b0, b1, b2, b3, hT]
      obtain ⟨k1, k2, k3, k4, k5, k6⟩ := okVel_iff hk
      refine AtFn.pure0 (vel35 st ct sf cf t k1 k2 k3 k4 k5 k6) ?_
      simp -dsimp -implicitDefEqProofs only [go_sem, seval]
      simp only [velR, hk, if_true]
end

section
set_option maxRecDepth 20000
def nxt (u t k : Int) : Int := u * t / 1073741824 * t / 1073741824 / (k * (k + 1))
def serI : Nat → Int → Int → Int → Int → Int → Int
  | 0, _, _, _, sum, _ => sum
  | n + 1, u, t, k, sum, sign => if u = 0 then sum else serI n (nxt u t k) t (k + 2) (sum + sign * u) (-sign)
theorem half_le {u t : Int} (h1 : 0 ≤ u) (h3 : 0 ≤ t) (h4 : t ≤ 1073741824) : 0 ≤ u * t / 1073741824 ∧ u * t / 1073741824 ≤ u := by
  have a : 0 ≤ u * t := Int.mul_nonneg h1 h3
  have b : u * t ≤ u * 1073741824 := Int.mul_le_mul_of_nonneg_left h4 h1
  omega
theorem nxt_b {u t k : Int} (h1 : 0 ≤ u) (h3 : 0 ≤ t) (h4 : t ≤ 1073741824) (hk : 1 ≤ k) : 0 ≤ nxt u t k ∧ 2 * nxt u t k ≤ u := by
  have a := half_le h1 h3 h4
  have b := half_le a.1 h3 h4
  have c : 2 ≤ k * (k + 1) := by
    have : 1 * 2 ≤ k * (k + 1) := Int.mul_le_mul hk (by omega) (by omega) (by omega)
    omega
  unfold nxt
  refine ⟨Int.ediv_nonneg b.1 (by omega), ?_⟩
  have d : (u * t / 1073741824 * t / 1073741824) / (k * (k + 1)) ≤ (u * t / 1073741824 * t / 1073741824) / 2 := by
    refine Int.le_ediv_of_mul_le (by omega) ?_
    have e := Int.ediv_mul_le (u * t / 1073741824 * t / 1073741824) (b := k * (k + 1)) (by omega)
    have f := Int.mul_le_mul_of_nonneg_left c (Int.ediv_nonneg b.1 (by omega : 0 ≤ k * (k + 1)))
    omega
  omega
theorem serI_more {t : Int} (h3 : 0 ≤ t) (h4 : t ≤ 1073741824) : ∀ (n m : Nat) (u k sum sign : Int), 0 ≤ u → 1 ≤ k → u < n → u < m → serI n u t k sum sign = serI m u t k sum sign
  | 0, m, u, k, sum, sign, h1, _, hn, _ => by omega
  | n + 1, 0, u, k, sum, sign, h1, _, _, hm => by omega
  | n + 1, m + 1, u, k, sum, sign, h1, hk, hn, hm => by
    simp only [serI]
    split
    · rfl
    · have := nxt_b h1 h3 h4 hk
      exact serI_more h3 h4 n m _ _ _ _ this.1 (by omega) (by omega) (by omega)
theorem serI_b {t : Int} (h3 : 0 ≤ t) (h4 : t ≤ 1073741824) : ∀ (n : Nat) (u k sum sign : Int), 0 ≤ u → 1 ≤ k → (sign = 1 → sum ≤ serI n u t k sum sign ∧ serI n u t k sum sign ≤ sum + u) ∧ (sign = -1 → sum - u ≤ serI n u t k sum sign ∧ serI n u t k sum sign ≤ sum)
  | 0, u, k, sum, sign, h1, _ => by simp only [serI]; omega
  | n + 1, u, k, sum, sign, h1, hk => by
    simp only [serI]
    split
    · omega
    · have hb := nxt_b h1 h3 h4 hk
      have ih := serI_b h3 h4 n (nxt u t k) (k + 2) (sum + sign * u) (-sign) hb.1 (by omega)
      constructor
      · intro h; subst h; have := ih.2 rfl; omega
      · intro h; subst h; have := ih.1 (by omega); omega
def serN (u : Int) : Nat := u.toNat + 1
def ser (u t k : Int) : Int := (serI (serN u) u t k 0 1 + 2) / 4
theorem ser_b {u t k : Int} (h1 : 0 ≤ u) (h3 : 0 ≤ t) (h4 : t ≤ 1073741824) (hk : 1 ≤ k) : 0 ≤ ser u t k ∧ ser u t k ≤ (u + 2) / 4 := by
  have := (serI_b h3 h4 (serN u) u k 0 1 h1 hk).1 rfl
  unfold ser
  omega
theorem serI_step {u t k sum sign : Int} (h1 : 0 < u) (h3 : 0 ≤ t) (h4 : t ≤ 1073741824) (hk : 1 ≤ k) : serI (serN u) u t k sum sign = serI (serN (nxt u t k)) (nxt u t k) t (k + 2) (sum + sign * u) (-sign) := by
  have hb := nxt_b (Int.le_of_lt h1) h3 h4 hk
  obtain ⟨m, hm⟩ : ∃ m, serN u = m + 1 := ⟨u.toNat, rfl⟩
  rw [hm]
  simp only [serI]
  rw [if_neg (by omega)]
  unfold serN at hm ⊢
  exact serI_more h3 h4 _ _ _ _ _ _ hb.1 (by omega) (by omega) (by omega)
theorem shr30 (x : Int) : x.fdiv (2 ^ min 30 64) = x / 1073741824 := by
  have : (2 : Int) ^ min 30 64 = 1073741824 := by kernel_rfl
  rw [this, Int.fdiv_eq_ediv_of_nonneg _ (by decide)]
theorem shr2 (x : Int) : x.fdiv (2 ^ min 2 64) = x / 4 := by
  have : (2 : Int) ^ min 2 64 = 4 := by kernel_rfl
  rw [this, Int.fdiv_eq_ediv_of_nonneg _ (by decide)]
theorem shr32 (x : Int) : x.fdiv (2 ^ min 32 64) = x / 4294967296 := by
  have : (2 : Int) ^ min 32 64 = 4294967296 := by kernel_rfl
  rw [this, Int.fdiv_eq_ediv_of_nonneg _ (by decide)]
theorem term_w {u t k : Int} (h1 : 0 ≤ u) (h2 : u ≤ 1073741824) (h3 : 0 ≤ t) (h4 : t ≤ 1073741824) (hk : 1 ≤ k) (hk2 : k ≤ 2147483650) :
    wr (u * t) = u * t ∧ wr (u * t / 1073741824 * t) = u * t / 1073741824 * t ∧ wr (k + 1) = k + 1 ∧ wr (k * (k + 1)) = k * (k + 1) ∧ ¬ k * (k + 1) = 0 ∧ wr ((u * t / 1073741824 * t / 1073741824).tdiv (k * (k + 1))) = nxt u t k := by
  have a := half_le h1 h3 h4
  have b := half_le a.1 h3 h4
  have m1 := mul_bd (a := u) (b := t) (A := 1073741824) (B := 1073741824) (by omega) h2 (by omega) h4
  have m2 := mul_bd (a := u * t / 1073741824) (b := t) (A := 1073741824) (B := 1073741824) (by omega) (by omega) (by omega) h4
  have m3 := mul_bd (a := k) (b := k + 1) (A := 2147483650) (B := 2147483651) (by omega) hk2 (by omega) (by omega)
  have c : 1 * 2 ≤ k * (k + 1) := Int.mul_le_mul hk (by omega) (by omega) (by omega)
  have n := nxt_b h1 h3 h4 hk
  refine ⟨wr_in (by omega) (by omega), wr_in (by omega) (by omega), wr_in (by omega) (by omega), wr_in (by omega) (by omega), by omega, ?_⟩
  rw [Int.tdiv_eq_ediv_of_nonneg b.1]
  exact wr_in (by unfold nxt at n; omega) (by unfold nxt at n; omega)
theorem series78 (u t k : Int) (h1 : 0 ≤ u) (h2 : u ≤ 1073741824) (h3 : 0 ≤ t) (h4 : t ≤ 1073741824) (hk : 1 ≤ k) (hk2 : k ≤ 2) : PFun Try.prog 78 [I u, I t, I k] (I (ser u t k)) := by
  refine PFun.intro 400 mixed Try.func78 (by kernel_rfl) rfl (by first | exact .v _ | (simp [Cl_v, Cl_t, Cl_g, Cl_fn, Cl_rp, Cl_ro]; done) | (simp [Cl_v, Cl_t, Cl_g, Cl_fn, Cl_rp, Cl_ro, or_imp, forall_and]; done) | (split <;> simp [Cl_v, Cl_t, Cl_g, Cl_fn, Cl_rp, Cl_ro])) (Nat.le_of_ble_eq_true rfl) ?_; rw [Try.ntmps78, Try.results78]
  simp -dsimp -implicitDefEqProofs (maxSteps := 1000000) only [go_sem, ↓reduceIte, Nat.reduceAdd, Nat.reduceSub, Nat.reduceMul, Nat.reduceLT, Nat.reduceLeDiff, Nat.reduceEqDiff, Nat.reduceBEq, Nat.reduceBNe, Int.reduceToNat, Int.reduceLT, Int.reduceLE, Int.reduceNeg, reduceCtorEq, Int.reduceEq, Int.reduceNe]
  refine ⟨{s : Int × Int × Int × Int // 0 ≤ s.1 ∧ s.1 ≤ 1073741824 ∧ 1 ≤ s.2.1 ∧ s.2.1 + 2 * s.1 ≤ 2147483650 ∧ -1073741824 ≤ s.2.2.1 ∧ s.2.2.1 ≤ 1073741824 ∧ ((s.2.2.2 = 1 ∧ s.2.2.1 + s.1 ≤ 1073741824 ∧ 0 ≤ s.2.2.1) ∨ (s.2.2.2 = -1 ∧ 0 ≤ s.2.2.1 - s.1)) ∧ ser u t k = (serI (serN s.1) s.1 t s.2.1 s.2.2.1 s.2.2.2 + 2) / 4},
    fun s => ⟨37, tl [(0, I s.1.1), (1, I t), (7, I s.1.2.2.1), (8, I s.1.2.2.2), (9, I s.1.2.1)], [], 0, .nil⟩, fun s => s.1.1.toNat,
    ⟨⟨(u, k, 0, 1), h1, h2, hk, by show k + 2 * u ≤ 2147483650; omega, by show (-1073741824 : Int) ≤ 0; decide, by show (0 : Int) ≤ 1073741824; decide, .inl ⟨rfl, by show 0 + u ≤ 1073741824; omega, by show (0 : Int) ≤ 0; decide⟩, rfl⟩, Le.tl (Ls := []) (y := none) [] (by simp -dsimp -implicitDefEqProofs (maxSteps := 1000000) only [go_sem, ↓reduceIte, Nat.reduceAdd, Nat.reduceSub, Nat.reduceMul, Nat.reduceLT, Nat.reduceLeDiff, Nat.reduceEqDiff, Nat.reduceBEq, Nat.reduceBNe, Int.reduceToNat, Int.reduceLT, Int.reduceLE, Int.reduceNeg, reduceCtorEq, Int.reduceEq, Int.reduceNe]) (by simp) (by simp) (by simp) trivial⟩, fun s => ?_⟩
  obtain ⟨⟨u', k', sum, sign⟩, b1, b2, b3, b4, b5, b6, b7, b8⟩ := s
  simp only at b1 b2 b3 b4 b5 b6 b7 b8
  simp -dsimp -implicitDefEqProofs (maxSteps := 1000000) only [go_sem, ↓reduceIte, Nat.reduceAdd, Nat.reduceSub, Nat.reduceMul, Nat.reduceLT, Nat.reduceLeDiff, Nat.reduceEqDiff, Nat.reduceBEq, Nat.reduceBNe, Int.reduceToNat, Int.reduceLT, Int.reduceLE, Int.reduceNeg, reduceCtorEq, Int.reduceEq, Int.reduceNe]
  refine ⟨fun h0 => ?_, fun h0 => ?_⟩
  · rw [shr2, wr_in (by omega) (by omega), b8]
    subst h0
    rfl
  · obtain ⟨w1, w2, w3, w4, w5, w6⟩ := term_w b1 b2 h3 h4 b3 (by omega)
    have w7 : wr (k' + 2) = k' + 2 := wr_in (by omega) (by omega)
    have hb := nxt_b b1 h3 h4 b3
    have hst := serI_step (sum := sum) (sign := sign) (show 0 < u' by omega) h3 h4 b3
    rw [hst] at b8
    rcases b7 with ⟨rfl, c1, c2⟩ | ⟨rfl, c1⟩
    · have v1 : wr (1 * u') = u' := by rw [Int.one_mul]; exact wr_in (by omega) (by omega)
      have v2 : wr (sum + u') = sum + u' := wr_in (by omega) (by omega)
      have v3 : wr (0 - 1) = -1 := by decide
      rw [Int.one_mul] at b8
      refine ⟨by rw [w3, w4]; exact w5, ⟨⟨(nxt u' t k', k' + 2, sum + u', -1), hb.1, by show nxt u' t k' ≤ 1073741824; omega, by show 1 ≤ k' + 2; omega, by show k' + 2 + 2 * nxt u' t k' ≤ 2147483650; omega, by show -1073741824 ≤ sum + u'; omega, by show sum + u' ≤ 1073741824; omega, .inr ⟨rfl, by show 0 ≤ sum + u' - nxt u' t k'; omega⟩, b8⟩, by show (nxt u' t k').toNat < u'.toNat; omega, Le.tl (Ls := []) (y := none) [] (by simp -dsimp -implicitDefEqProofs (maxSteps := 1000000) only [go_sem, ↓reduceIte, Nat.reduceAdd, Nat.reduceSub, Nat.reduceMul, Nat.reduceLT, Nat.reduceLeDiff, Nat.reduceEqDiff, Nat.reduceBEq, Nat.reduceBNe, Int.reduceToNat, Int.reduceLT, Int.reduceLE, Int.reduceNeg, reduceCtorEq, Int.reduceEq, Int.reduceNe, shr30, w1, w2, w3, w4, w6, w7, v1, v2, v3]) (by simp) (by simp) (by simp) trivial⟩⟩
    · have v1 : wr (-1 * u') = -u' := by rw [Int.neg_mul, Int.one_mul]; exact wr_in (by omega) (by omega)
      have v2 : wr (sum + -u') = sum + -u' := wr_in (by omega) (by omega)
      have v3 : wr (0 - -1) = 1 := by decide
      rw [Int.neg_mul, Int.one_mul] at b8
      refine ⟨by rw [w3, w4]; exact w5, ⟨⟨(nxt u' t k', k' + 2, sum + -u', 1), hb.1, by show nxt u' t k' ≤ 1073741824; omega, by show 1 ≤ k' + 2; omega, by show k' + 2 + 2 * nxt u' t k' ≤ 2147483650; omega, by show -1073741824 ≤ sum + -u'; omega, by show sum + -u' ≤ 1073741824; omega, .inl ⟨rfl, by show sum + -u' + nxt u' t k' ≤ 1073741824; omega, by show 0 ≤ sum + -u'; omega⟩, b8⟩, by show (nxt u' t k').toNat < u'.toNat; omega, Le.tl (Ls := []) (y := none) [] (by simp -dsimp -implicitDefEqProofs (maxSteps := 1000000) only [go_sem, ↓reduceIte, Nat.reduceAdd, Nat.reduceSub, Nat.reduceMul, Nat.reduceLT, Nat.reduceLeDiff, Nat.reduceEqDiff, Nat.reduceBEq, Nat.reduceBNe, Int.reduceToNat, Int.reduceLT, Int.reduceLE, Int.reduceNeg, reduceCtorEq, Int.reduceEq, Int.reduceNe, shr30, w1, w2, w3, w4, w6, w7, v1, v2, v3]) (by simp) (by simp) (by simp) trivial⟩⟩
end

section
set_option maxRecDepth 20000
def radW (r : Int) : Int := (76760392275 * r + 2147483648) / 4294967296
def sinW (r : Int) : Int := ser (radW r) (radW r) 2
def cosW (r : Int) : Int := ser 1073741824 (radW r) 1
theorem rad_b {r : Int} (h1 : 0 ≤ r) (h2 : r ≤ 47185920) : 0 ≤ radW r ∧ radW r ≤ 1073741824 := by unfold radW; omega
theorem low_b {r : Int} (h1 : 0 ≤ r) (h2 : r ≤ 47185920) : 0 ≤ sinW r ∧ sinW r ≤ 268435456 ∧ 0 ≤ cosW r ∧ cosW r ≤ 268435456 := by
  have a := rad_b h1 h2
  have b := ser_b a.1 a.1 a.2 (show (1 : Int) ≤ 2 by decide)
  have c := ser_b (u := 1073741824) (by decide) a.1 a.2 (show (1 : Int) ≤ 1 by decide)
  unfold sinW cosW
  omega
theorem sine63 (r : Int) (h1 : 0 ≤ r) (h2 : r ≤ 47185920) : PFun Try.prog 63 [I r] (.t [I (sinW r), I (cosW r)]) := by
  have a := rad_b h1 h2
  have w1 : wr (76760392275 * r) = 76760392275 * r := wr_in (by omega) (by omega)
  have w2 : (wr (76760392275 * r + 2147483648)).fdiv (2 ^ min 32 64) = radW r := by
    rw [shr32, wr_in (by omega) (by omega)]; rfl
  refine PFun.intro 400 mixed Try.func63 (by kernel_rfl) rfl (by first | exact .v _ | (simp [Cl_v, Cl_t, Cl_g, Cl_fn, Cl_rp, Cl_ro]; done) | (simp [Cl_v, Cl_t, Cl_g, Cl_fn, Cl_rp, Cl_ro, or_imp, forall_and]; done) | (split <;> simp [Cl_v, Cl_t, Cl_g, Cl_fn, Cl_rp, Cl_ro])) (Nat.le_of_ble_eq_true rfl) ?_; rw [Try.ntmps63, Try.results63]
  simp -dsimp -implicitDefEqProofs only [go_sem, seval, w1, w2]
  refine AtFn.pure0 (series78 _ _ 2 (by omega) (by omega) (by omega) (by omega) (by decide) (by decide)) ?_
  simp -dsimp -implicitDefEqProofs only [go_sem, seval]
  refine AtFn.pure0 (series78 _ _ 1 (by decide) (by decide) (by omega) (by omega) (by decide) (by decide)) ?_
  simp -dsimp -implicitDefEqProofs only [go_sem, seval]
  rfl
end

section
set_option maxRecDepth 20000
def baseW (r : Int) : Int × Int := if r > 47185920 then (cosW (94371840 - r), sinW (94371840 - r)) else (sinW r, cosW r)
def rotN : Nat → Int × Int → Int × Int
  | 0, p => p
  | n + 1, p => ((rotN n p).2, -(rotN n p).1)
def circW (a : Int) : Int × Int := rotN (a % 377487360 / 94371840).toNat (baseW (a % 377487360 % 94371840))
def inPF (p : Int × Int) : Prop := inF p.1 ∧ inF p.2
theorem base_b {r : Int} (h1 : 0 ≤ r) (h2 : r < 94371840) : inPF (baseW r) := by
  unfold baseW
  split
  · have := low_b (r := 94371840 - r) (by omega) (by omega)
    exact ⟨⟨by show (-268435456 : Int) ≤ cosW _; omega, by show cosW _ ≤ 268435456; omega⟩, ⟨by show (-268435456 : Int) ≤ sinW _; omega, by show sinW _ ≤ 268435456; omega⟩⟩
  · have := low_b (r := r) (by omega) (by omega)
    exact ⟨⟨by show (-268435456 : Int) ≤ sinW _; omega, by show sinW _ ≤ 268435456; omega⟩, ⟨by show (-268435456 : Int) ≤ cosW _; omega, by show cosW _ ≤ 268435456; omega⟩⟩
theorem rot_b : ∀ (n : Nat) (p : Int × Int), inPF p → inPF (rotN n p)
  | 0, p, h => h
  | n + 1, p, h => by
    have := rot_b n p h
    unfold inPF inF at *
    simp only [rotN]
    omega
theorem circ_b (a : Int) : inPF (circW a) := rot_b _ _ (base_b (by omega) (by omega))
theorem tmodF {a : Int} (h1 : -9223372036854775808 ≤ a) (h2 : a ≤ 9223372036854775807) : wr (a.tmod 377487360) = a.tmod 377487360 ∧ (if a.tmod 377487360 < 0 then a.tmod 377487360 + 377487360 else a.tmod 377487360) = a % 377487360 ∧ -377487360 < a.tmod 377487360 ∧ a.tmod 377487360 < 377487360 := by
  have l1 := Int.tmod_lt_of_pos a (show (0 : Int) < 377487360 by decide)
  have l2 := Int.lt_tmod_of_pos a (show (0 : Int) < 377487360 by decide)
  have e := Int.tdiv_mul_add_tmod a 377487360
  refine ⟨wr_in (by omega) (by omega), ?_, l2, l1⟩
  split <;> omega
theorem sine57 (a : Int) (h1 : -1099511627776 ≤ a) (h2 : a ≤ 1099511627776) : PFun Try.prog 57 [I a] (.t [I (circW a).1, I (circW a).2, I 0]) := by
  obtain ⟨t1, t2, t3, t4⟩ := tmodF (a := a) (by omega) (by omega)
  obtain ⟨r, hr⟩ : ∃ r, r = a % 377487360 := ⟨_, rfl⟩
  have r1 : 0 ≤ r := by omega
  have r2 : r < 377487360 := by omega
  have hc : circW a = rotN (r / 94371840).toNat (baseW (r % 94371840)) := by rw [hr]; rfl
  rw [hc]
  have q1 : r.tdiv 94371840 = r / 94371840 := Int.tdiv_eq_ediv_of_nonneg r1
  have q2 : r.tmod 94371840 = r % 94371840 := Int.tmod_eq_emod_of_nonneg r1
  have q3 : wr (r / 94371840) = r / 94371840 := wr_in (by omega) (by omega)
  have q4 : wr (r % 94371840) = r % 94371840 := wr_in (by omega) (by omega)
  have n1 : ¬ a < -1099511627776 := by omega
  have n2 : ¬ 1099511627776 < a := by omega
  rw [← hr] at t2
  have hb := base_b (r := r % 94371840) (by omega) (by omega)
  obtain ⟨Q, hQ⟩ : ∃ Q, Q = r / 94371840 := ⟨_, rfl⟩
  have hQ0 : 0 ≤ Q := by omega
  have hQ1 : Q < 5 := by omega
  obtain ⟨m, hm⟩ : ∃ m, m = r % 94371840 := ⟨_, rfl⟩
  have hm0 : 0 ≤ m := by omega
  have hm1 : m < 94371840 := by omega
  have q5 : wr (94371840 - m) = 94371840 - m := wr_in (by omega) (by omega)
  rw [← hQ] at q1 q3
  rw [← hm] at q2 q4 hb
  rw [← hQ, ← hm]
  clear hc
  have hlow := sine63 (min m (94371840 - m)) (by omega) (by omega)
  have key : ∃ s c, PFun Try.prog 63 [I (min m (94371840 - m))] (.t [I s, I c]) ∧ (if 47185920 < m then (c, s) else (s, c)) = baseW m := by
    refine ⟨_, _, hlow, ?_⟩
    unfold baseW
    by_cases hg : 47185920 < m
    · rw [if_pos hg, if_pos hg, show min m (94371840 - m) = 94371840 - m by omega]
    · rw [if_neg hg, if_neg (by omega), show min m (94371840 - m) = m by omega]
  obtain ⟨s, c, hpf, hsc⟩ := key
  obtain ⟨B, hB⟩ : ∃ B, B = baseW m := ⟨_, rfl⟩
  rw [← hB] at hsc hb ⊢
  refine PFun.intro 400 mixed Try.func57 (by kernel_rfl) rfl (by first | exact .v _ | (simp [Cl_v, Cl_t, Cl_g, Cl_fn, Cl_rp, Cl_ro]; done) | (simp [Cl_v, Cl_t, Cl_g, Cl_fn, Cl_rp, Cl_ro, or_imp, forall_and]; done) | (split <;> simp [Cl_v, Cl_t, Cl_g, Cl_fn, Cl_rp, Cl_ro])) (Nat.le_of_ble_eq_true rfl) ?_; rw [Try.ntmps57, Try.results57]
  by_cases hneg : a.tmod 377487360 < 0
  · rw [if_pos hneg] at t2
    have t5 : wr (a.tmod 377487360 + 377487360) = r := by rw [t2]; exact wr_in (by omega) (by omega)
    simp -dsimp -implicitDefEqProofs only [go_sem, seval, n1, n2, t1, hneg, t5, q1, q2, q3, q4, q5]
    refine AtFn.pure0 hpf ?_
    by_cases hg : 47185920 < m
    · rw [if_pos hg] at hsc
      simp -dsimp -implicitDefEqProofs only [go_sem, seval, hg]
      refine ⟨{i : Nat // i ≤ Q.toNat}, fun i => ⟨46, tl [(7, I (rotN i.1 B).1), (8, I (rotN i.1 B).2), (37, I Q), (38, I i.1)], [], 0, .nil⟩, fun i => Q.toNat - i.1,
        ⟨⟨0, by omega⟩, Le.tl (Ls := []) (y := none) [] (by simp -dsimp -implicitDefEqProofs only [go_sem, seval, rotN, ← hsc]) (by simp) (by simp) (by simp) trivial⟩, fun i => ?_⟩
      obtain ⟨i, hi⟩ := i
      simp -dsimp -implicitDefEqProofs only [go_sem, seval]
      refine ⟨fun h0 => ?_, fun h0 => ?_⟩
      · have hb1 := rot_b i B hb
        have x1 : wr (0 - (rotN i B).1) = -(rotN i B).1 := by rw [wr_in (by have := hb1.1.2; omega) (by have := hb1.1.1; omega)]; omega
        have x2 : wr ((i : Int) + 1) = ((i + 1 : Nat) : Int) := by rw [wr_in (by omega) (by omega)]; rfl
        refine ⟨⟨i + 1, by omega⟩, by show Q.toNat - (i + 1) < Q.toNat - i; omega, Le.tl (Ls := []) (y := none) [] (by simp -dsimp -implicitDefEqProofs only [go_sem, seval, rotN, x1, x2]) (by simp) (by simp) (by simp) trivial⟩
      · have : i = Q.toNat := by omega
        rw [this]
    · rw [if_neg hg] at hsc
      simp -dsimp -implicitDefEqProofs only [go_sem, seval, hg]
      refine ⟨{i : Nat // i ≤ Q.toNat}, fun i => ⟨46, tl [(7, I (rotN i.1 B).1), (8, I (rotN i.1 B).2), (37, I Q), (38, I i.1)], [], 0, .nil⟩, fun i => Q.toNat - i.1,
        ⟨⟨0, by omega⟩, Le.tl (Ls := []) (y := none) [] (by simp -dsimp -implicitDefEqProofs only [go_sem, seval, rotN, ← hsc]) (by simp) (by simp) (by simp) trivial⟩, fun i => ?_⟩
      obtain ⟨i, hi⟩ := i
      simp -dsimp -implicitDefEqProofs only [go_sem, seval]
      refine ⟨fun h0 => ?_, fun h0 => ?_⟩
      · have hb1 := rot_b i B hb
        have x1 : wr (0 - (rotN i B).1) = -(rotN i B).1 := by rw [wr_in (by have := hb1.1.2; omega) (by have := hb1.1.1; omega)]; omega
        have x2 : wr ((i : Int) + 1) = ((i + 1 : Nat) : Int) := by rw [wr_in (by omega) (by omega)]; rfl
        refine ⟨⟨i + 1, by omega⟩, by show Q.toNat - (i + 1) < Q.toNat - i; omega, Le.tl (Ls := []) (y := none) [] (by simp -dsimp -implicitDefEqProofs only [go_sem, seval, rotN, x1, x2]) (by simp) (by simp) (by simp) trivial⟩
      · have : i = Q.toNat := by omega
        rw [this]
  · rw [if_neg hneg] at t2
    simp -dsimp -implicitDefEqProofs only [go_sem, seval, n1, n2, t1, hneg, t2, show ¬ r < 0 by omega, q1, q2, q3, q4, q5]
    refine AtFn.pure0 hpf ?_
    by_cases hg : 47185920 < m
    · rw [if_pos hg] at hsc
      simp -dsimp -implicitDefEqProofs only [go_sem, seval, hg]
      refine ⟨{i : Nat // i ≤ Q.toNat}, fun i => ⟨46, tl [(7, I (rotN i.1 B).1), (8, I (rotN i.1 B).2), (37, I Q), (38, I i.1)], [], 0, .nil⟩, fun i => Q.toNat - i.1,
        ⟨⟨0, by omega⟩, Le.tl (Ls := []) (y := none) [] (by simp -dsimp -implicitDefEqProofs only [go_sem, seval, rotN, ← hsc]) (by simp) (by simp) (by simp) trivial⟩, fun i => ?_⟩
      obtain ⟨i, hi⟩ := i
      simp -dsimp -implicitDefEqProofs only [go_sem, seval]
      refine ⟨fun h0 => ?_, fun h0 => ?_⟩
      · have hb1 := rot_b i B hb
        have x1 : wr (0 - (rotN i B).1) = -(rotN i B).1 := by rw [wr_in (by have := hb1.1.2; omega) (by have := hb1.1.1; omega)]; omega
        have x2 : wr ((i : Int) + 1) = ((i + 1 : Nat) : Int) := by rw [wr_in (by omega) (by omega)]; rfl
        refine ⟨⟨i + 1, by omega⟩, by show Q.toNat - (i + 1) < Q.toNat - i; omega, Le.tl (Ls := []) (y := none) [] (by simp -dsimp -implicitDefEqProofs only [go_sem, seval, rotN, x1, x2]) (by simp) (by simp) (by simp) trivial⟩
      · have : i = Q.toNat := by omega
        rw [this]
    · rw [if_neg hg] at hsc
      simp -dsimp -implicitDefEqProofs only [go_sem, seval, hg]
      refine ⟨{i : Nat // i ≤ Q.toNat}, fun i => ⟨46, tl [(7, I (rotN i.1 B).1), (8, I (rotN i.1 B).2), (37, I Q), (38, I i.1)], [], 0, .nil⟩, fun i => Q.toNat - i.1,
        ⟨⟨0, by omega⟩, Le.tl (Ls := []) (y := none) [] (by simp -dsimp -implicitDefEqProofs only [go_sem, seval, rotN, ← hsc]) (by simp) (by simp) (by simp) trivial⟩, fun i => ?_⟩
      obtain ⟨i, hi⟩ := i
      simp -dsimp -implicitDefEqProofs only [go_sem, seval]
      refine ⟨fun h0 => ?_, fun h0 => ?_⟩
      · have hb1 := rot_b i B hb
        have x1 : wr (0 - (rotN i B).1) = -(rotN i B).1 := by rw [wr_in (by have := hb1.1.2; omega) (by have := hb1.1.1; omega)]; omega
        have x2 : wr ((i : Int) + 1) = ((i + 1 : Nat) : Int) := by rw [wr_in (by omega) (by omega)]; rfl
        refine ⟨⟨i + 1, by omega⟩, by show Q.toNat - (i + 1) < Q.toNat - i; omega, Le.tl (Ls := []) (y := none) [] (by simp -dsimp -implicitDefEqProofs only [go_sem, seval, rotN, x1, x2]) (by simp) (by simp) (by simp) trivial⟩
      · have : i = Q.toNat := by omega
        rw [this]
end

section
set_option maxRecDepth 20000
def ptR (b c : Int × Int) : AV := if inP b && inP c then .t [Pt b, Pt c, I 0] else .t [Pt (0, 0), Pt (0, 0), I 17]
theorem clPtR (b c : Int × Int) : Cl (ptR b c) := by
  unfold ptR
  split <;> simp [Cl_t, Cl_v, Cl_g]
theorem placed51 (b c : Int × Int) : PFun Try.prog 51 [Pt b, Pt c] (ptR b c) := by
  unfold ptR
  by_cases hb : inP b = true
  · by_cases hc : inP c = true
    · simp only [hb, hc, Bool.and_self, if_true]
      refine PFun.intro 400 mixed Try.func51 (by kernel_rfl) rfl (by first | exact .v _ | (simp [Cl_v, Cl_t, Cl_g, Cl_fn, Cl_rp, Cl_ro]; done) | (simp [Cl_v, Cl_t, Cl_g, Cl_fn, Cl_rp, Cl_ro, or_imp, forall_and]; done) | (split <;> simp [Cl_v, Cl_t, Cl_g, Cl_fn, Cl_rp, Cl_ro])) (Nat.le_of_ble_eq_true rfl) ?_; rw [Try.ntmps51, Try.results51]
      simp -dsimp -implicitDefEqProofs only [go_sem, seval]
      refine AtFn.pure0 (placed32 b) ?_
      simp -dsimp -implicitDefEqProofs only [go_sem, seval, hb]
      refine AtFn.pure0 (placed32 c) ?_
      simp -dsimp -implicitDefEqProofs only [go_sem, seval, hc]
      refine AtCode.drawB 2 [([], []), ([], [2]), ([0], []), ([0, 1, 2], []), ([0, 1, 2, 3], [])] [false, true, true] (by kernel_rfl) ?_
      simp -dsimp -implicitDefEqProofs only [go_sem, seval]
      kernel_rfl
    · simp only [hb, hc, Bool.and_false, Bool.false_eq_true, if_false]
      refine PFun.intro 400 mixed Try.func51 (by kernel_rfl) rfl (by first | exact .v _ | (simp [Cl_v, Cl_t, Cl_g, Cl_fn, Cl_rp, Cl_ro]; done) | (simp [Cl_v, Cl_t, Cl_g, Cl_fn, Cl_rp, Cl_ro, or_imp, forall_and]; done) | (split <;> simp [Cl_v, Cl_t, Cl_g, Cl_fn, Cl_rp, Cl_ro])) (Nat.le_of_ble_eq_true rfl) ?_; rw [Try.ntmps51, Try.results51]
      simp -dsimp -implicitDefEqProofs only [go_sem, seval]
      refine AtFn.pure0 (placed32 b) ?_
      simp -dsimp -implicitDefEqProofs only [go_sem, seval, hb]
      refine AtFn.pure0 (placed32 c) ?_
      simp -dsimp -implicitDefEqProofs only [go_sem, seval, hc]
  · simp only [hb, Bool.false_and, Bool.false_eq_true, if_false]
    refine PFun.intro 400 mixed Try.func51 (by kernel_rfl) rfl (by first | exact .v _ | (simp [Cl_v, Cl_t, Cl_g, Cl_fn, Cl_rp, Cl_ro]; done) | (simp [Cl_v, Cl_t, Cl_g, Cl_fn, Cl_rp, Cl_ro, or_imp, forall_and]; done) | (split <;> simp [Cl_v, Cl_t, Cl_g, Cl_fn, Cl_rp, Cl_ro])) (Nat.le_of_ble_eq_true rfl) ?_; rw [Try.ntmps51, Try.results51]
    simp -dsimp -implicitDefEqProofs only [go_sem, seval]
    refine AtFn.pure0 (placed32 b) ?_
    simp -dsimp -implicitDefEqProofs only [go_sem, seval, hb]
def alB (z w B D : Int × Int) (ta : Int) : Int × Int :=
  (z.1 + pr (pr (w.1 - z.1) B.2 - pr (w.2 - z.2) B.1) (velW B.1 B.2 D.1 D.2 ta), z.2 + pr (pr (w.2 - z.2) B.2 + pr (w.1 - z.1) B.1) (velW B.1 B.2 D.1 D.2 ta))
def alC (z w B D : Int × Int) (tb : Int) : Int × Int :=
  (w.1 - pr (pr (w.1 - z.1) D.2 + pr (w.2 - z.2) D.1) (velW D.1 D.2 B.1 B.2 tb), w.2 - pr (pr (w.2 - z.2) D.2 - pr (w.1 - z.1) D.1) (velW D.1 D.2 B.1 B.2 tb))
def alongR (z w : Int × Int) (u v ta tb : Int) : AV := ptR (alB z w (circW u) (circW v) ta) (alC z w (circW u) (circW v) tb)
theorem circ_mod (u : Int) : circW (u.tmod 377487360) = circW u := by
  have e := Int.tmod_add_mul_tdiv u 377487360
  have : u.tmod 377487360 % 377487360 = u % 377487360 := by omega
  unfold circW
  rw [this]
theorem inP_bd {p : Int × Int} (h : inP p = true) : -268435455 ≤ p.1 ∧ p.1 ≤ 268435455 ∧ -268435455 ≤ p.2 ∧ p.2 ≤ 268435455 := by
  simp only [inP, inC, Bool.and_eq_true, decide_eq_true_eq] at h
  omega
structure AlB (X Y a b r : Int) : Prop where
  p1 : -2305843009213693952 ≤ X * a ∧ X * a ≤ 2305843009213693952
  b1 : -536870910 ≤ pr X a ∧ pr X a ≤ 536870910
  p2 : -2305843009213693952 ≤ Y * b ∧ Y * b ≤ 2305843009213693952
  b2 : -536870910 ≤ pr Y b ∧ pr Y b ≤ 536870910
  p3 : -2305843009213693952 ≤ (pr X a - pr Y b) * r ∧ (pr X a - pr Y b) * r ≤ 2305843009213693952
  b3 : -8589934592 ≤ pr (pr X a - pr Y b) r ∧ pr (pr X a - pr Y b) r ≤ 8589934592
  p4 : -2305843009213693952 ≤ (pr X a + pr Y b) * r ∧ (pr X a + pr Y b) * r ≤ 2305843009213693952
  b4 : -8589934592 ≤ pr (pr X a + pr Y b) r ∧ pr (pr X a + pr Y b) r ≤ 8589934592
theorem al_b {X Y a b r : Int} (hX : -536870910 ≤ X ∧ X ≤ 536870910) (hY : -536870910 ≤ Y ∧ Y ≤ 536870910) (ha : inF a) (hb : inF b) (hr : -2147483648 ≤ r ∧ r ≤ 1073741824) : AlB X Y a b r := by
  unfold inF at ha hb
  have m1 := mul_bd hX.1 hX.2 ha.1 ha.2
  have m2 := mul_bd hY.1 hY.2 hb.1 hb.2
  have b1 := pr_bd (p := X) (q := a) (A := 536870910) (by omega)
  have b2 := pr_bd (p := Y) (q := b) (A := 536870910) (by omega)
  have m3 := mul_bd (a := pr X a - pr Y b) (A := 1073741820) (b := r) (B := 2147483648) (by omega) (by omega) (by omega) (by omega)
  have m4 := mul_bd (a := pr X a + pr Y b) (A := 1073741820) (b := r) (B := 2147483648) (by omega) (by omega) (by omega) (by omega)
  exact ⟨by omega, b1, by omega, b2, by omega, pr_bd (by omega), by omega, pr_bd (by omega)⟩
structure AlH (z w : Int × Int) (ta tb : Int) : Prop where
  z : inP z = true
  w : inP w = true
  a1 : 49152 ≤ ta
  a2 : ta ≤ 268435455
  b1 : 49152 ≤ tb
  b2 : tb ≤ 268435455
theorem along38 (z w : Int × Int) (u v ta tb : Int) (hu : -9223372036854775808 ≤ u ∧ u ≤ 9223372036854775807) (hv : -9223372036854775808 ≤ v ∧ v ≤ 9223372036854775807) (H : AlH z w ta tb) : PFun Try.prog 38 [Pt z, Pt w, I u, I v, I ta, I tb] (alongR z w u v ta tb) := by
  obtain ⟨t1, _, t3, t4⟩ := tmodF (a := u) hu.1 hu.2
  obtain ⟨s1, _, s3, s4⟩ := tmodF (a := v) hv.1 hv.2
  have su := sine57 (u.tmod 377487360) (by omega) (by omega)
  have sv := sine57 (v.tmod 377487360) (by omega) (by omega)
  rw [circ_mod] at su sv
  obtain ⟨hz, hw, a1, a2, b1, b2⟩ := H
  have hz := inP_bd hz
  have hw := inP_bd hw
  obtain ⟨B, hB⟩ : ∃ B, B = circW u := ⟨_, rfl⟩
  obtain ⟨D, hD⟩ : ∃ D, D = circW v := ⟨_, rfl⟩
  have cB := circ_b u
  have cD := circ_b v
  unfold alongR
  rw [← hB] at su cB ⊢
  rw [← hD] at sv cD ⊢
  obtain ⟨cB1, cB2⟩ := cB
  obtain ⟨cD1, cD2⟩ := cD
  have v1 := vel35 B.1 B.2 D.1 D.2 ta cB1 cB2 cD1 cD2 a1 a2
  have v2 := vel35 D.1 D.2 B.1 B.2 tb cD1 cD2 cB1 cB2 b1 b2
  have vb1 := vel_bd cB1 cB2 cD1 cD2 a1
  have vb2 := vel_bd cD1 cD2 cB1 cB2 b1
  have w1 : wr (w.1 - z.1) = w.1 - z.1 := wr_in (by omega) (by omega)
  have w2 : wr (w.2 - z.2) = w.2 - z.2 := wr_in (by omega) (by omega)
  have hX : -536870910 ≤ w.1 - z.1 ∧ w.1 - z.1 ≤ 536870910 := by omega
  have hY : -536870910 ≤ w.2 - z.2 ∧ w.2 - z.2 ≤ 536870910 := by omega
  have mi := minus40 w z
  rw [w1, w2] at mi
  unfold alB alC
  obtain ⟨r, hr⟩ : ∃ r, r = velW B.1 B.2 D.1 D.2 ta := ⟨_, rfl⟩
  obtain ⟨s, hs⟩ : ∃ s, s = velW D.1 D.2 B.1 B.2 tb := ⟨_, rfl⟩
  rw [← hr] at v1 vb1 ⊢
  rw [← hs] at v2 vb2 ⊢
  obtain ⟨X, eX⟩ : ∃ X, X = w.1 - z.1 := ⟨_, rfl⟩
  obtain ⟨Y, eY⟩ : ∃ Y, Y = w.2 - z.2 := ⟨_, rfl⟩
  rw [← eX] at w1 mi hX ⊢
  rw [← eY] at w2 mi hY ⊢
  have A1 := al_b hX hY cB2 cB1 vb1
  have A2 := al_b hY hX cB2 cB1 vb1
  have A3 := al_b hX hY cD2 cD1 vb2
  have A4 := al_b hY hX cD2 cD1 vb2
  have x1 : wr (pr X B.2 - pr Y B.1) = pr X B.2 - pr Y B.1 := wr_in (by have := A1.b1; have := A1.b2; omega) (by have := A1.b1; have := A1.b2; omega)
  have x2 : wr (pr Y B.2 + pr X B.1) = pr Y B.2 + pr X B.1 := wr_in (by have := A2.b1; have := A2.b2; omega) (by have := A2.b1; have := A2.b2; omega)
  have x3 : wr (pr X D.2 + pr Y D.1) = pr X D.2 + pr Y D.1 := wr_in (by have := A3.b1; have := A3.b2; omega) (by have := A3.b1; have := A3.b2; omega)
  have x4 : wr (pr Y D.2 - pr X D.1) = pr Y D.2 - pr X D.1 := wr_in (by have := A4.b1; have := A4.b2; omega) (by have := A4.b1; have := A4.b2; omega)
  have y1 : wr (z.1 + pr (pr X B.2 - pr Y B.1) r) = z.1 + pr (pr X B.2 - pr Y B.1) r := wr_in (by have := A1.b3; omega) (by have := A1.b3; omega)
  have y2 : wr (z.2 + pr (pr Y B.2 + pr X B.1) r) = z.2 + pr (pr Y B.2 + pr X B.1) r := wr_in (by have := A2.b4; omega) (by have := A2.b4; omega)
  have y3 : wr (w.1 - pr (pr X D.2 + pr Y D.1) s) = w.1 - pr (pr X D.2 + pr Y D.1) s := wr_in (by have := A3.b4; omega) (by have := A3.b4; omega)
  have y4 : wr (w.2 - pr (pr Y D.2 - pr X D.1) s) = w.2 - pr (pr Y D.2 - pr X D.1) s := wr_in (by have := A4.b3; omega) (by have := A4.b3; omega)
  refine PFun.intro 400 mixed Try.func38 (by kernel_rfl) rfl (clPtR _ _) (Nat.le_of_ble_eq_true rfl) ?_; rw [Try.ntmps38, Try.results38]
  simp -dsimp -implicitDefEqProofs only [go_sem, seval]
  refine AtFn.pure0 mi ?_
  simp -dsimp -implicitDefEqProofs only [go_sem, seval, t1]
  refine AtFn.pure0 su ?_
  simp -dsimp -implicitDefEqProofs only [go_sem, seval, s1]
  refine AtFn.pure0 sv ?_
  simp -dsimp -implicitDefEqProofs only [go_sem, seval]
  refine AtFn.pure0 v1 ?_
  simp -dsimp -implicitDefEqProofs only [go_sem, seval]
  refine AtFn.pure0 v2 ?_
  simp -dsimp -implicitDefEqProofs only [go_sem, seval]
  refine AtCode.draw 35 [([], []), ([0], []), ([], []), ([], []), ([], []), ([4], []), ([], []), ([3, 4, 5, 6], []), ([], []), ([], []), ([9], []), ([], []), ([3, 4, 5, 6, 7, 8, 9, 10, 11], []), ([3, 4, 5, 6, 7, 8, 9, 10, 11, 12], []), ([], []), ([2, 3, 4, 5, 6, 7, 8, 9, 10, 11, 12, 13, 14], []), ([0, 1, 2, 3, 4, 5, 6, 7, 8, 9, 10, 11, 12, 13, 14, 15], []), ([], []), ([17], []), ([], []), ([], []), ([], []), ([21], []), ([], []), ([2, 3, 4, 5, 6, 7, 8, 9, 10, 11, 12, 13, 14, 15, 20, 21, 22, 23], []), ([], []), ([], []), ([26], []), ([], []), ([2, 3, 4, 5, 6, 7, 8, 9, 10, 11, 12, 13, 14, 15, 20, 21, 22, 23, 24, 25, 26, 27, 28], []), ([2, 3, 4, 5, 6, 7, 8, 9, 10, 11, 12, 13, 14, 15, 20, 21, 22, 23, 24, 25, 26, 27, 28, 29], []), ([], []), ([2, 3, 4, 5, 6, 7, 8, 9, 10, 11, 12, 13, 14, 15, 19, 20, 21, 22, 23, 24, 25, 26, 27, 28, 29, 30, 31], []), ([2, 3, 4, 5, 6, 7, 8, 9, 10, 11, 12, 13, 14, 15, 17, 18, 19, 20, 21, 22, 23, 24, 25, 26, 27, 28, 29, 30, 31, 32], []), ([0, 1, 2, 3, 4, 5, 6, 7, 8, 9, 10, 11, 12, 13, 14, 15, 16, 17, 18, 19, 20, 21, 22, 23, 24, 25, 26, 27, 28, 29, 30, 31, 32, 33], []), ([0, 1, 2, 3, 4, 5, 6, 7, 8, 9, 10, 11, 12, 13, 14, 15, 16, 17, 18, 19, 20, 21, 22, 23, 24, 25, 26, 27, 28, 29, 30, 31, 32, 33, 34], [])] (by kernel_rfl) ?_
  simp -dsimp -implicitDefEqProofs only [go_sem, seval]
  refine QFn.use _ (product52p X B.2 A1.p1) (by simp -dsimp -implicitDefEqProofs only [go_sem, seval]) ?_
  simp -dsimp -implicitDefEqProofs only [go_sem, seval]
  refine QFn.use _ (product52p Y B.1 A1.p2) (by simp -dsimp -implicitDefEqProofs only [go_sem, seval]) ?_
  simp -dsimp -implicitDefEqProofs only [go_sem, seval, x1]
  refine QFn.use _ (product52p _ r A1.p3) (by simp -dsimp -implicitDefEqProofs only [go_sem, seval]) ?_
  simp -dsimp -implicitDefEqProofs only [go_sem, seval, y1]
  refine QFn.use _ (product52p Y B.2 A2.p1) (by simp -dsimp -implicitDefEqProofs only [go_sem, seval]) ?_
  simp -dsimp -implicitDefEqProofs only [go_sem, seval]
  refine QFn.use _ (product52p X B.1 A2.p2) (by simp -dsimp -implicitDefEqProofs only [go_sem, seval]) ?_
  simp -dsimp -implicitDefEqProofs only [go_sem, seval, x2]
  refine QFn.use _ (product52p _ r A2.p4) (by simp -dsimp -implicitDefEqProofs only [go_sem, seval]) ?_
  simp -dsimp -implicitDefEqProofs only [go_sem, seval, y2]
  refine AtCode.draw 35 [([], []), ([0], []), ([], []), ([], []), ([], []), ([4], []), ([], []), ([3, 4, 5, 6], []), ([], []), ([], []), ([9], []), ([], []), ([3, 4, 5, 6, 7, 8, 9, 10, 11], []), ([3, 4, 5, 6, 7, 8, 9, 10, 11, 12], []), ([], []), ([2, 3, 4, 5, 6, 7, 8, 9, 10, 11, 12, 13, 14], []), ([0, 1, 2, 3, 4, 5, 6, 7, 8, 9, 10, 11, 12, 13, 14, 15], []), ([], []), ([17], []), ([], []), ([], []), ([], []), ([21], []), ([], []), ([2, 3, 4, 5, 6, 7, 8, 9, 10, 11, 12, 13, 14, 15, 20, 21, 22, 23], []), ([], []), ([], []), ([26], []), ([], []), ([2, 3, 4, 5, 6, 7, 8, 9, 10, 11, 12, 13, 14, 15, 20, 21, 22, 23, 24, 25, 26, 27, 28], []), ([2, 3, 4, 5, 6, 7, 8, 9, 10, 11, 12, 13, 14, 15, 20, 21, 22, 23, 24, 25, 26, 27, 28, 29], []), ([], []), ([2, 3, 4, 5, 6, 7, 8, 9, 10, 11, 12, 13, 14, 15, 19, 20, 21, 22, 23, 24, 25, 26, 27, 28, 29, 30, 31], []), ([2, 3, 4, 5, 6, 7, 8, 9, 10, 11, 12, 13, 14, 15, 17, 18, 19, 20, 21, 22, 23, 24, 25, 26, 27, 28, 29, 30, 31, 32], []), ([0, 1, 2, 3, 4, 5, 6, 7, 8, 9, 10, 11, 12, 13, 14, 15, 16, 17, 18, 19, 20, 21, 22, 23, 24, 25, 26, 27, 28, 29, 30, 31, 32, 33], []), ([0, 1, 2, 3, 4, 5, 6, 7, 8, 9, 10, 11, 12, 13, 14, 15, 16, 17, 18, 19, 20, 21, 22, 23, 24, 25, 26, 27, 28, 29, 30, 31, 32, 33, 34], [])] (by kernel_rfl) ?_
  simp -dsimp -implicitDefEqProofs only [go_sem, seval]
  refine QFn.use _ (product52p X D.2 A3.p1) (by simp -dsimp -implicitDefEqProofs only [go_sem, seval]) ?_
  simp -dsimp -implicitDefEqProofs only [go_sem, seval]
  refine QFn.use _ (product52p Y D.1 A3.p2) (by simp -dsimp -implicitDefEqProofs only [go_sem, seval]) ?_
  simp -dsimp -implicitDefEqProofs only [go_sem, seval, x3]
  refine QFn.use _ (product52p _ s A3.p4) (by simp -dsimp -implicitDefEqProofs only [go_sem, seval]) ?_
  simp -dsimp -implicitDefEqProofs only [go_sem, seval, y3]
  refine QFn.use _ (product52p Y D.2 A4.p1) (by simp -dsimp -implicitDefEqProofs only [go_sem, seval]) ?_
  simp -dsimp -implicitDefEqProofs only [go_sem, seval]
  refine QFn.use _ (product52p X D.1 A4.p2) (by simp -dsimp -implicitDefEqProofs only [go_sem, seval]) ?_
  simp -dsimp -implicitDefEqProofs only [go_sem, seval, x4]
  refine QFn.use _ (product52p _ s A4.p3) (by simp -dsimp -implicitDefEqProofs only [go_sem, seval]) ?_
  simp -dsimp -implicitDefEqProofs only [go_sem, seval, y4]
  obtain ⟨b, hb⟩ : ∃ b : Int × Int, b = (z.1 + pr (pr X B.2 - pr Y B.1) r, z.2 + pr (pr Y B.2 + pr X B.1) r) := ⟨_, rfl⟩
  obtain ⟨c, hc⟩ : ∃ c : Int × Int, c = (w.1 - pr (pr X D.2 + pr Y D.1) s, w.2 - pr (pr Y D.2 - pr X D.1) s) := ⟨_, rfl⟩
  have hp := placed51 b c
  by_cases hi : (inP b && inP c) = true
  · have e : ptR b c = .t [Pt b, Pt c, I 0] := by unfold ptR; rw [if_pos hi]
    rw [e] at hp
    rw [hb, hc] at hp e
    refine AtFn.pure0 hp ?_
    rw [e]
    simp -dsimp -implicitDefEqProofs only [go_sem, seval]
  · have e : ptR b c = .t [Pt (0, 0), Pt (0, 0), I 17] := by unfold ptR; rw [if_neg hi]
    rw [e] at hp
    rw [hb, hc] at hp e
    refine AtFn.pure0 hp ?_
    rw [e]
    simp -dsimp -implicitDefEqProofs only [go_sem, seval]
end

section
set_option maxRecDepth 20000
def inA (u : Int) : Bool := decide (-754974720 ≤ u) && decide (u ≤ 754974720)
def okCt (z w : Int × Int) (u v ta tb : Int) : Bool := inP z && (inP w && (inA u && (inA v && (inT ta && inT tb))))
def ctlR (z w : Int × Int) (u v ta tb : Int) : AV := if okCt z w u v ta tb then alongR z w u v ta tb else .t [Pt (0, 0), Pt (0, 0), I 2]
theorem along_t (z w : Int × Int) (u v ta tb : Int) : ∃ b c e, alongR z w u v ta tb = .t [Pt b, Pt c, I e] := by
  unfold alongR ptR
  split
  · exact ⟨_, _, _, rfl⟩
  · exact ⟨_, _, _, rfl⟩
theorem okCt_h {z w : Int × Int} {u v ta tb : Int} (h : okCt z w u v ta tb = true) : AlH z w ta tb ∧ (-4611686018427387904 ≤ u ∧ u ≤ 4611686018427387904) ∧ (-4611686018427387904 ≤ v ∧ v ≤ 4611686018427387904) := by
  simp only [okCt, Bool.and_eq_true, inA, inT, decide_eq_true_eq] at h
  obtain ⟨h1, h2, h3, h4, h5, h6⟩ := h
  exact ⟨⟨h1, h2, h5.1, h5.2, h6.1, h6.2⟩, by omega, by omega⟩
theorem controls20 (z w : Int × Int) (u v ta tb : Int) : PFun Try.prog 20 [Pt z, Pt w, I u, I v, I ta, I tb] (ctlR z w u v ta tb) := by
  have p1 := placed32 z
  have p2 := placed32 w
  have p3 : PFun Try.prog 34 [I u, I (-754974720), I 754974720] (Bo (inA u)) := within34 u _ _
  have p4 : PFun Try.prog 34 [I v, I (-754974720), I 754974720] (Bo (inA v)) := within34 v _ _
  have p5 : PFun Try.prog 34 [I ta, I 49152, I 268435455] (Bo (inT ta)) := within34 ta _ _
  have p6 : PFun Try.prog 34 [I tb, I 49152, I 268435455] (Bo (inT tb)) := within34 tb _ _
  have hok := @okCt_h z w u v ta tb
  unfold ctlR
  unfold okCt at hok ⊢
  cases b1 : inP z
  · rw [b1] at p1
    simp only [Bool.false_and, Bool.and_false, Bool.true_and, Bool.false_eq_true, if_false]
    refine PFun.intro 400 mixed Try.func20 (by kernel_rfl) rfl (by first | exact .v _ | (simp [Cl_v, Cl_t, Cl_g, Cl_fn, Cl_rp, Cl_ro]; done) | (simp [Cl_v, Cl_t, Cl_g, Cl_fn, Cl_rp, Cl_ro, or_imp, forall_and]; done) | (split <;> simp [Cl_v, Cl_t, Cl_g, Cl_fn, Cl_rp, Cl_ro])) (Nat.le_of_ble_eq_true rfl) ?_; rw [Try.ntmps20, Try.results20]
    simp -dsimp -implicitDefEqProofs only [go_sem, seval]
    refine AtFn.pure0 p1 ?_
    simp -dsimp -implicitDefEqProofs only [go_sem, seval]
  rw [b1] at p1 hok
  cases b2 : inP w
  · rw [b2] at p2
    simp only [Bool.false_and, Bool.and_false, Bool.true_and, Bool.false_eq_true, if_false]
    refine PFun.intro 400 mixed Try.func20 (by kernel_rfl) rfl (by first | exact .v _ | (simp [Cl_v, Cl_t, Cl_g, Cl_fn, Cl_rp, Cl_ro]; done) | (simp [Cl_v, Cl_t, Cl_g, Cl_fn, Cl_rp, Cl_ro, or_imp, forall_and]; done) | (split <;> simp [Cl_v, Cl_t, Cl_g, Cl_fn, Cl_rp, Cl_ro])) (Nat.le_of_ble_eq_true rfl) ?_; rw [Try.ntmps20, Try.results20]
    simp -dsimp -implicitDefEqProofs only [go_sem, seval]
    refine AtFn.pure0 p1 ?_
    simp -dsimp -implicitDefEqProofs only [go_sem, seval]
    refine AtFn.pure0 p2 ?_
    simp -dsimp -implicitDefEqProofs only [go_sem, seval]
  rw [b2] at p2 hok
  cases b3 : inA u
  · rw [b3] at p3
    simp only [Bool.false_and, Bool.and_false, Bool.true_and, Bool.false_eq_true, if_false]
    refine PFun.intro 400 mixed Try.func20 (by kernel_rfl) rfl (by first | exact .v _ | (simp [Cl_v, Cl_t, Cl_g, Cl_fn, Cl_rp, Cl_ro]; done) | (simp [Cl_v, Cl_t, Cl_g, Cl_fn, Cl_rp, Cl_ro, or_imp, forall_and]; done) | (split <;> simp [Cl_v, Cl_t, Cl_g, Cl_fn, Cl_rp, Cl_ro])) (Nat.le_of_ble_eq_true rfl) ?_; rw [Try.ntmps20, Try.results20]
    simp -dsimp -implicitDefEqProofs only [go_sem, seval]
    refine AtFn.pure0 p1 ?_
    simp -dsimp -implicitDefEqProofs only [go_sem, seval]
    refine AtFn.pure0 p2 ?_
    simp -dsimp -implicitDefEqProofs only [go_sem, seval]
    refine AtFn.pure0 p3 ?_
    simp -dsimp -implicitDefEqProofs only [go_sem, seval]
  rw [b3] at p3 hok
  cases b4 : inA v
  · rw [b4] at p4
    simp only [Bool.false_and, Bool.and_false, Bool.true_and, Bool.false_eq_true, if_false]
    refine PFun.intro 400 mixed Try.func20 (by kernel_rfl) rfl (by first | exact .v _ | (simp [Cl_v, Cl_t, Cl_g, Cl_fn, Cl_rp, Cl_ro]; done) | (simp [Cl_v, Cl_t, Cl_g, Cl_fn, Cl_rp, Cl_ro, or_imp, forall_and]; done) | (split <;> simp [Cl_v, Cl_t, Cl_g, Cl_fn, Cl_rp, Cl_ro])) (Nat.le_of_ble_eq_true rfl) ?_; rw [Try.ntmps20, Try.results20]
    simp -dsimp -implicitDefEqProofs only [go_sem, seval]
    refine AtFn.pure0 p1 ?_
    simp -dsimp -implicitDefEqProofs only [go_sem, seval]
    refine AtFn.pure0 p2 ?_
    simp -dsimp -implicitDefEqProofs only [go_sem, seval]
    refine AtFn.pure0 p3 ?_
    simp -dsimp -implicitDefEqProofs only [go_sem, seval]
    refine AtFn.pure0 p4 ?_
    simp -dsimp -implicitDefEqProofs only [go_sem, seval]
  rw [b4] at p4 hok
  cases b5 : inT ta
  · rw [b5] at p5
    simp only [Bool.false_and, Bool.and_false, Bool.true_and, Bool.false_eq_true, if_false]
    refine PFun.intro 400 mixed Try.func20 (by kernel_rfl) rfl (by first | exact .v _ | (simp [Cl_v, Cl_t, Cl_g, Cl_fn, Cl_rp, Cl_ro]; done) | (simp [Cl_v, Cl_t, Cl_g, Cl_fn, Cl_rp, Cl_ro, or_imp, forall_and]; done) | (split <;> simp [Cl_v, Cl_t, Cl_g, Cl_fn, Cl_rp, Cl_ro])) (Nat.le_of_ble_eq_true rfl) ?_; rw [Try.ntmps20, Try.results20]
    simp -dsimp -implicitDefEqProofs only [go_sem, seval]
    refine AtFn.pure0 p1 ?_
    simp -dsimp -implicitDefEqProofs only [go_sem, seval]
    refine AtFn.pure0 p2 ?_
    simp -dsimp -implicitDefEqProofs only [go_sem, seval]
    refine AtFn.pure0 p3 ?_
    simp -dsimp -implicitDefEqProofs only [go_sem, seval]
    refine AtFn.pure0 p4 ?_
    simp -dsimp -implicitDefEqProofs only [go_sem, seval]
    refine AtFn.pure0 p5 ?_
    simp -dsimp -implicitDefEqProofs only [go_sem, seval]
  rw [b5] at p5 hok
  cases b6 : inT tb
  · rw [b6] at p6
    simp only [Bool.false_and, Bool.and_false, Bool.true_and, Bool.false_eq_true, if_false]
    refine PFun.intro 400 mixed Try.func20 (by kernel_rfl) rfl (by first | exact .v _ | (simp [Cl_v, Cl_t, Cl_g, Cl_fn, Cl_rp, Cl_ro]; done) | (simp [Cl_v, Cl_t, Cl_g, Cl_fn, Cl_rp, Cl_ro, or_imp, forall_and]; done) | (split <;> simp [Cl_v, Cl_t, Cl_g, Cl_fn, Cl_rp, Cl_ro])) (Nat.le_of_ble_eq_true rfl) ?_; rw [Try.ntmps20, Try.results20]
    simp -dsimp -implicitDefEqProofs only [go_sem, seval]
    refine AtFn.pure0 p1 ?_
    simp -dsimp -implicitDefEqProofs only [go_sem, seval]
    refine AtFn.pure0 p2 ?_
    simp -dsimp -implicitDefEqProofs only [go_sem, seval]
    refine AtFn.pure0 p3 ?_
    simp -dsimp -implicitDefEqProofs only [go_sem, seval]
    refine AtFn.pure0 p4 ?_
    simp -dsimp -implicitDefEqProofs only [go_sem, seval]
    refine AtFn.pure0 p5 ?_
    simp -dsimp -implicitDefEqProofs only [go_sem, seval]
    refine AtFn.pure0 p6 ?_
    simp -dsimp -implicitDefEqProofs only [go_sem, seval]
  rw [b6] at p6 hok
  simp only [Bool.and_self, if_true] at hok ⊢
  obtain ⟨H, hu, hv⟩ := hok trivial
  have ha := along38 z w u v ta tb (by omega) (by omega) H
  obtain ⟨b, c, e, he⟩ := along_t z w u v ta tb
  rw [he] at ha ⊢
  refine PFun.intro 400 mixed Try.func20 (by kernel_rfl) rfl (by first | exact .v _ | (simp [Cl_v, Cl_t, Cl_g, Cl_fn, Cl_rp, Cl_ro]; done) | (simp [Cl_v, Cl_t, Cl_g, Cl_fn, Cl_rp, Cl_ro, or_imp, forall_and]; done) | (split <;> simp [Cl_v, Cl_t, Cl_g, Cl_fn, Cl_rp, Cl_ro])) (Nat.le_of_ble_eq_true rfl) ?_; rw [Try.ntmps20, Try.results20]
  simp -dsimp -implicitDefEqProofs only [go_sem, seval]
  refine AtFn.pure0 p1 ?_
  simp -dsimp -implicitDefEqProofs only [go_sem, seval]
  refine AtFn.pure0 p2 ?_
  simp -dsimp -implicitDefEqProofs only [go_sem, seval]
  refine AtFn.pure0 p3 ?_
  simp -dsimp -implicitDefEqProofs only [go_sem, seval]
  refine AtFn.pure0 p4 ?_
  simp -dsimp -implicitDefEqProofs only [go_sem, seval]
  refine AtFn.pure0 p5 ?_
  simp -dsimp -implicitDefEqProofs only [go_sem, seval]
  refine AtFn.pure0 p6 ?_
  simp -dsimp -implicitDefEqProofs only [go_sem, seval]
  refine AtFn.pure0 ha ?_
  simp -dsimp -implicitDefEqProofs only [go_sem, seval]
end

section
set_option maxRecDepth 20000
attribute [local go_sem] clIntsL
def inN (x : Int) : Bool := decide (-2147483647 ≤ x) && decide (x ≤ 2147483647)
theorem fixed59 (l : List Int) (hl : l.length < 2 ^ 62) : PFun Try.prog 59 [Ints l] (Bo (l.all inN)) := by
  refine PFun.intro 400 mixed Try.func59 (by kernel_rfl) rfl (by first | exact .v _ | (simp [Cl_v, Cl_t, Cl_g, Cl_fn, Cl_rp, Cl_ro]; done) | (simp [Cl_v, Cl_t, Cl_g, Cl_fn, Cl_rp, Cl_ro, or_imp, forall_and]; done) | (split <;> simp [Cl_v, Cl_t, Cl_g, Cl_fn, Cl_rp, Cl_ro])) (Nat.le_of_ble_eq_true rfl) ?_; rw [Try.ntmps59, Try.results59]
  simp -dsimp -implicitDefEqProofs only [go_sem, seval, List.length_map]
  refine ⟨{i : Nat // i ≤ l.length ∧ ∀ x ∈ l.take i, inN x = true}, fun i => ⟨18, tl [(5, Ints l), (6, I l.length), (7, I i.1)], [], 0, .nil⟩, fun i => l.length - i.1,
    ⟨⟨0, by omega, by simp⟩, Le.tl (Ls := []) (y := none) [] (by simp -dsimp -implicitDefEqProofs only [go_sem, seval]) (by simp) (by simp) (by simp) trivial⟩, fun i => ?_⟩
  obtain ⟨i, hi, hall⟩ := i
  simp -dsimp -implicitDefEqProofs only [go_sem, seval]
  refine ⟨fun h => ?_, fun h => ?_⟩
  · have hlt : i < l.length := by omega
    have hp := getI hlt
    simp -dsimp -implicitDefEqProofs only [go_sem, seval, List.getElem?_map, Int.toNat_natCast, Int.natCast_nonneg, hp]
    have hm : l.getD i 0 ∈ l := List.mem_of_getElem? hp
    refine ⟨fun h1 => ?_, fun h1 => ⟨fun h2 => ?_, fun h2 => ?_⟩⟩
    · have : l.all inN = false := by rw [List.all_eq_false]; exact ⟨_, hm, by rw [Bool.not_eq_true]; simp only [inN, Bool.and_eq_false_iff, decide_eq_false_iff_not]; omega⟩
      rw [this]
    · have : l.all inN = false := by rw [List.all_eq_false]; exact ⟨_, hm, by rw [Bool.not_eq_true]; simp only [inN, Bool.and_eq_false_iff, decide_eq_false_iff_not]; omega⟩
      rw [this]
    · refine ⟨⟨i + 1, by omega, fun x hx => ?_⟩, by show l.length - (i + 1) < l.length - i; omega, Le.tl (Ls := []) (y := none) [] ?_ (by simp) (by simp) (by simp) trivial⟩
      · rw [List.take_add_one, hp, List.mem_append] at hx
        rcases hx with hx | hx
        · exact hall x hx
        · simp only [Option.toList_some, List.mem_singleton] at hx; rw [hx]; simp only [inN, Bool.and_eq_true, decide_eq_true_eq]; omega
      · simp -dsimp -implicitDefEqProofs only [go_sem, seval]
        rw [wr_in (by omega) (by omega)]
        rfl
  · have : i = l.length := by omega
    subst this
    rw [List.take_length] at hall
    have : l.all inN = true := by rw [List.all_eq_true]; exact hall
    rw [this]
def bits : Nat → Int → Int → Int
  | 0, r, _ => r
  | j + 1, r, n => bits j (if (r + 2 ^ j) * (r + 2 ^ j) ≤ n then r + 2 ^ j else r) n
def hlf : Nat → Int
  | 0 => 0
  | j + 1 => 2 ^ j
theorem wu {x : Int} (h1 : 0 ≤ x) (h2 : x ≤ 18446744073709551615) : IntKind.u64.wrap x = x := by
  simp [IntKind.wrap]
  first | omega | (simp [IntKind.signed, IntKind.bits] <;> omega)
theorem pow_pos2 (j : Nat) : (1 : Int) ≤ 2 ^ j := by
  have : 0 < (2 : Int) ^ j := Int.pow_pos (by decide)
  omega
theorem bits_b : ∀ (j : Nat) (r n : Int), 0 ≤ r → r * r ≤ n → r ≤ bits j r n ∧ bits j r n * bits j r n ≤ n
  | 0, r, n, h0, h => ⟨Int.le_refl _, h⟩
  | j + 1, r, n, h0, h => by
    have hp := pow_pos2 j
    simp only [bits]
    split
    · rename_i hc
      have := bits_b j (r + 2 ^ j) n (by omega) hc
      omega
    · exact bits_b j r n h0 h
theorem bits_u : ∀ (j : Nat) (r n : Int), 0 ≤ r → n < (r + 2 ^ j) * (r + 2 ^ j) → n < (bits j r n + 1) * (bits j r n + 1)
  | 0, r, n, h0, h => by simpa [bits] using h
  | j + 1, r, n, h0, h => by
    have hp := pow_pos2 j
    simp only [bits]
    split
    · refine bits_u j (r + 2 ^ j) n (by omega) ?_
      rw [Int.pow_succ] at h
      rw [show r + 2 ^ j + 2 ^ j = r + 2 ^ j * 2 by omega]
      exact h
    · rename_i hc
      exact bits_u j r n h0 (by omega)
theorem root61 (n : Int) (h1 : 0 ≤ n) (h2 : n ≤ 9223372036854775807) : PFun Try.prog 61 [.v (.int .u64 n)] (I (if bits 32 0 n < n - bits 32 0 n * bits 32 0 n then bits 32 0 n + 1 else bits 32 0 n)) := by
  obtain ⟨R, hR⟩ : ∃ R, R = bits 32 0 n := ⟨_, rfl⟩
  rw [← hR]
  refine PFun.intro 400 mixed Try.func61 (by kernel_rfl) rfl (by first | exact .v _ | (simp [Cl_v, Cl_t, Cl_g, Cl_fn, Cl_rp, Cl_ro]; done) | (simp [Cl_v, Cl_t, Cl_g, Cl_fn, Cl_rp, Cl_ro, or_imp, forall_and]; done) | (split <;> simp [Cl_v, Cl_t, Cl_g, Cl_fn, Cl_rp, Cl_ro])) (Nat.le_of_ble_eq_true rfl) ?_; rw [Try.ntmps61, Try.results61]
  simp -dsimp -implicitDefEqProofs only [go_sem, seval]
  refine ⟨{p : Nat × Int // p.1 ≤ 32 ∧ 0 ≤ p.2 ∧ p.2 + 2 ^ p.1 ≤ 4294967296 ∧ p.2 * p.2 ≤ n ∧ R = bits p.1 p.2 n}, fun p => ⟨32, tl [(0, .v (.int .u64 n)), (3, .v (.int .u64 p.1.2)), (4, .v (.int .u64 (hlf p.1.1)))], [], 0, .nil⟩, fun p => p.1.1,
    ⟨⟨(32, 0), by decide, by decide, by decide, by simpa using h1, hR⟩, Le.tl (Ls := []) (y := none) [] (by simp -dsimp -implicitDefEqProofs only [go_sem, seval, show hlf 32 = 2147483648 by decide]) (by simp) (by simp) (by simp) trivial⟩, fun p => ?_⟩
  obtain ⟨⟨j, r⟩, b1, b2, b3, b5, b4⟩ := p
  simp only at b1 b2 b3 b4 b5
  cases j with
  | zero =>
    have e : R = r := b4
    subst e
    have hr : R ≤ 4294967295 := by simp at b3; omega
    have m := mul_bd (a := R) (b := R) (A := 4294967295) (B := 4294967295) (by omega) hr (by omega) hr
    have w1 : IntKind.u64.wrap (R * R) = R * R := wu (Int.mul_nonneg b2 b2) (by omega)
    have w2 : IntKind.u64.wrap (n - R * R) = n - R * R := wu (by omega) (by have := Int.mul_nonneg b2 b2; omega)
    have w3 : IntKind.u64.wrap (R + 1) = R + 1 := wu (by omega) (by omega)
    have w4 : wr (R + 1) = R + 1 := wr_in (by omega) (by omega)
    have w5 : wr R = R := wr_in (by omega) (by omega)
    simp -dsimp -implicitDefEqProofs only [go_sem, seval, hlf, w1, w2]
    refine ⟨fun h => ?_, fun h => ?_⟩
    · rw [if_pos h, w3, w4]
    · rw [if_neg h, w5]
  | succ j =>
    have hp := pow_pos2 j
    have hpw : (2 : Int) ^ (j + 1) = 2 ^ j * 2 := Int.pow_succ _ _
    rw [hpw] at b3
    obtain ⟨q, hq⟩ : ∃ q : Int, q = 2 ^ j := ⟨_, rfl⟩
    have hh : hlf (j + 1) = q := hq.symm
    have hs : q.fdiv (2 ^ min 1 64) = hlf j := by
      rw [show ((2 : Int) ^ min 1 64) = 2 by decide, Int.fdiv_eq_ediv_of_nonneg _ (by decide), hq]
      cases j with
      | zero => rfl
      | succ j => rw [Int.pow_succ]; simp [hlf]
    rw [← hq] at hp b3
    have m := mul_bd (a := r + q) (b := r + q) (A := 4294967295) (B := 4294967295) (by omega) (by omega) (by omega) (by omega)
    have m0 : 0 ≤ (r + q) * (r + q) := Int.mul_nonneg (by omega) (by omega)
    have w1 : IntKind.u64.wrap (r + q) = r + q := wu (by omega) (by omega)
    have w2 : IntKind.u64.wrap ((r + q) * (r + q)) = (r + q) * (r + q) := wu m0 (by omega)
    simp only [bits] at b4
    rw [← hq] at b4
    simp -dsimp -implicitDefEqProofs only [go_sem, seval, hh, hs, w1, w2, show 0 < q by omega]
    refine ⟨fun h => ?_, fun h => ?_⟩
    · rw [if_pos h] at b4
      exact ⟨⟨(j, r + q), by show j ≤ 32; omega, by show 0 ≤ r + q; omega, by show r + q + 2 ^ j ≤ 4294967296; omega, h, b4⟩, by show j < j + 1; omega, Le.tl (Ls := []) (y := none) [] (by simp -dsimp -implicitDefEqProofs only [go_sem, seval]) (by simp) (by simp) (by simp) trivial⟩
    · rw [if_neg h] at b4
      exact ⟨⟨(j, r), by show j ≤ 32; omega, b2, by show r + 2 ^ j ≤ 4294967296; omega, b5, b4⟩, by show j < j + 1; omega, Le.tl (Ls := []) (y := none) [] (by simp -dsimp -implicitDefEqProofs only [go_sem, seval]) (by simp) (by simp) (by simp) trivial⟩
end

section
set_option maxRecDepth 20000
attribute [local go_sem] clIntsL
def hypW (a b : Int) : Int := if bits 32 0 (a * a + b * b) < a * a + b * b - bits 32 0 (a * a + b * b) * bits 32 0 (a * a + b * b) then bits 32 0 (a * a + b * b) + 1 else bits 32 0 (a * a + b * b)
structure HypB (a b : Int) : Prop where
  n0 : 0 ≤ a * a + b * b
  n1 : a * a + b * b ≤ 576460750155939600
  lo : 0 ≤ hypW a b
  hi : hypW a b ≤ 1073741824
  pos : (a ≠ 0 ∨ b ≠ 0) → 0 < hypW a b
theorem hyp_b {a b : Int} (ha : -536870910 ≤ a ∧ a ≤ 536870910) (hb : -536870910 ≤ b ∧ b ≤ 536870910) : HypB a b := by
  have m1 := mul_bd ha.1 ha.2 ha.1 ha.2
  have m2 := mul_bd hb.1 hb.2 hb.1 hb.2
  have p1 : 0 ≤ a * a := by rcases Int.le_total 0 a with h | h; exact Int.mul_nonneg h h; exact Int.mul_nonneg_of_nonpos_of_nonpos h h
  have p2 : 0 ≤ b * b := by rcases Int.le_total 0 b with h | h; exact Int.mul_nonneg h h; exact Int.mul_nonneg_of_nonpos_of_nonpos h h
  obtain ⟨n, hn⟩ : ∃ n, n = a * a + b * b := ⟨_, rfl⟩
  obtain ⟨c1, c2⟩ := bits_b 32 0 n (by omega) (by omega)
  have c3 := bits_u 32 0 n (by omega) (by show n < (0 + 4294967296) * (0 + 4294967296); omega)
  have hw : hypW a b = if bits 32 0 n < n - bits 32 0 n * bits 32 0 n then bits 32 0 n + 1 else bits 32 0 n := by rw [hn]; rfl
  obtain ⟨R, hR⟩ : ∃ R, R = bits 32 0 n := ⟨_, rfl⟩
  rw [← hR] at c1 c2 c3 hw
  have hR2 : R < 1073741824 := by
    rcases Int.lt_or_le R 1073741824 with h | h
    · exact h
    · have := Int.mul_le_mul h h (by decide) (by omega)
      omega
  refine ⟨by omega, by omega, by rw [hw]; split <;> omega, by rw [hw]; split <;> omega, fun hne => ?_⟩
  have hn1 : 1 ≤ n := by
    rcases hne with h | h
    · have : 0 < a * a := by rcases Int.lt_or_gt_of_ne h with h | h; exact Int.mul_pos_of_neg_of_neg h h; exact Int.mul_pos h h
      omega
    · have : 0 < b * b := by rcases Int.lt_or_gt_of_ne h with h | h; exact Int.mul_pos_of_neg_of_neg h h; exact Int.mul_pos h h
      omega
  rw [hw]
  split
  · omega
  · rcases Int.lt_or_le 0 R with h | h
    · exact h
    · have : R = 0 := by omega
      subst this
      omega
theorem inN_t {x : Int} (h : -2147483647 ≤ x ∧ x ≤ 2147483647) : inN x = true := by simp only [inN, Bool.and_eq_true, decide_eq_true_eq]; exact h
theorem fixedT (a b : Int) (ha : -2147483647 ≤ a ∧ a ≤ 2147483647) (hb : -2147483647 ≤ b ∧ b ≤ 2147483647) : PFun Try.prog 59 [.ro 1 [[I a], [I b]]] (Bo true) := by
  have := fixed59 [a, b] (by simp)
  have e : [a, b].all inN = true := by simp [inN_t ha, inN_t hb]
  rw [e] at this
  exact this
theorem result60 (a : Int) (ha : -2147483647 ≤ a ∧ a ≤ 2147483647) : PFun Try.prog 60 [I a] (.t [I a, I 0]) := by
  have hf : PFun Try.prog 59 [.ro 1 [[I a]]] (Bo true) := by
    have := fixed59 [a] (by simp)
    have e : [a].all inN = true := by simp [inN_t ha]
    rw [e] at this
    exact this
  refine PFun.intro 400 mixed Try.func60 (by kernel_rfl) rfl (by first | exact .v _ | (simp [Cl_v, Cl_t, Cl_g, Cl_fn, Cl_rp, Cl_ro]; done) | (simp [Cl_v, Cl_t, Cl_g, Cl_fn, Cl_rp, Cl_ro, or_imp, forall_and]; done) | (split <;> simp [Cl_v, Cl_t, Cl_g, Cl_fn, Cl_rp, Cl_ro])) (Nat.le_of_ble_eq_true rfl) ?_; rw [Try.ntmps60, Try.results60]
  simp -dsimp -implicitDefEqProofs only [go_sem, seval]
  refine AtFn.pure hf ?_
  simp -dsimp -implicitDefEqProofs only [go_sem, seval]
theorem sq_u (a : Int) (h : -2147483647 ≤ a ∧ a ≤ 2147483647) : IntKind.u64.wrap (IntKind.u64.wrap a * IntKind.u64.wrap a) = a * a := by
  have key : ∀ x : Int, IntKind.u64.wrap x = x % 18446744073709551616 := by
    intro x
    simp [IntKind.wrap]
    first | rfl | (simp [IntKind.signed, IntKind.bits])
  have p1 : 0 ≤ a * a := by rcases Int.le_total 0 a with h | h; exact Int.mul_nonneg h h; exact Int.mul_nonneg_of_nonpos_of_nonpos h h
  have m1 := mul_bd h.1 h.2 h.1 h.2
  rw [key, key, ← Int.mul_emod]
  omega
theorem hypot41 (a b : Int) (ha : -536870910 ≤ a ∧ a ≤ 536870910) (hb : -536870910 ≤ b ∧ b ≤ 536870910) : PFun Try.prog 41 [I a, I b] (.t [I (hypW a b), I 0]) := by
  obtain ⟨n0, n1, lo, hi, _⟩ := hyp_b ha hb
  have hr := root61 (a * a + b * b) n0 (by omega)
  have e1 := sq_u a (by omega)
  have e2 := sq_u b (by omega)
  have p1 : 0 ≤ a * a := by rcases Int.le_total 0 a with h | h; exact Int.mul_nonneg h h; exact Int.mul_nonneg_of_nonpos_of_nonpos h h
  have p2 : 0 ≤ b * b := by rcases Int.le_total 0 b with h | h; exact Int.mul_nonneg h h; exact Int.mul_nonneg_of_nonpos_of_nonpos h h
  have e3 : IntKind.u64.wrap (a * a + b * b) = a * a + b * b := wu n0 (by omega)
  have hr2 := result60 (hypW a b) (by omega)
  change PFun Try.prog 61 _ (I (hypW a b)) at hr
  refine PFun.intro 400 mixed Try.func41 (by kernel_rfl) rfl (by first | exact .v _ | (simp [Cl_v, Cl_t, Cl_g, Cl_fn, Cl_rp, Cl_ro]; done) | (simp [Cl_v, Cl_t, Cl_g, Cl_fn, Cl_rp, Cl_ro, or_imp, forall_and]; done) | (split <;> simp [Cl_v, Cl_t, Cl_g, Cl_fn, Cl_rp, Cl_ro])) (Nat.le_of_ble_eq_true rfl) ?_; rw [Try.ntmps41, Try.results41]
  simp -dsimp -implicitDefEqProofs only [go_sem, seval]
  refine AtFn.pure (fixedT a b (by omega) (by omega)) ?_
  simp -dsimp -implicitDefEqProofs only [go_sem, seval, e1, e2, e3]
  refine AtFn.pure0 hr ?_
  simp -dsimp -implicitDefEqProofs only [go_sem, seval]
  refine AtFn.pure0 hr2 ?_
  simp -dsimp -implicitDefEqProofs only [go_sem, seval]
def argI : Nat → Int → Int → Int → Int
  | 0, _, _, a => a
  | j + 1, g, s, a => argI j g s (if 47185920 < a + 2 ^ j then a else if sinW (a + 2 ^ j) * g ≤ cosW (a + 2 ^ j) * s then a + 2 ^ j else a)
theorem argI_b : ∀ (j : Nat) (g s a : Int), 0 ≤ a → a ≤ 47185920 → 0 ≤ argI j g s a ∧ argI j g s a ≤ 47185920
  | 0, g, s, a, h1, h2 => ⟨h1, h2⟩
  | j + 1, g, s, a, h1, h2 => by
    have hp := pow_pos2 j
    simp only [argI]
    refine argI_b j g s _ ?_ ?_
    · split
      · exact h1
      · split <;> omega
    · split
      · exact h2
      · split <;> omega
def ab (x : Int) : Int := max x (-x)
def a0W (x y : Int) : Int := if min (ab x) (ab y) < max (ab x) (ab y) then argI 26 (max (ab x) (ab y)) (min (ab x) (ab y)) 0 else 47185920
def a1W (x y : Int) : Int := if ab x < ab y then 94371840 - a0W x y else a0W x y
def a2W (x y : Int) : Int := if x < 0 then 188743680 - a1W x y else a1W x y
def argW (x y : Int) : Int := if max (ab x) (ab y) = 0 then 0 else if y < 0 then -a2W x y else a2W x y
def argE (x y : Int) : Int := if max (ab x) (ab y) = 0 then 18 else 0
theorem arg_b (x y : Int) : (0 ≤ a0W x y ∧ a0W x y ≤ 47185920) ∧ (0 ≤ a1W x y ∧ a1W x y ≤ 94371840) ∧ (0 ≤ a2W x y ∧ a2W x y ≤ 188743680) ∧ (-188743680 ≤ argW x y ∧ argW x y ≤ 188743680) := by
  have b0 : 0 ≤ a0W x y ∧ a0W x y ≤ 47185920 := by
    unfold a0W
    split
    · exact argI_b _ _ _ _ (by decide) (by decide)
    · decide
  have b1 : 0 ≤ a1W x y ∧ a1W x y ≤ 94371840 := by unfold a1W; split <;> omega
  have b2 : 0 ≤ a2W x y ∧ a2W x y ≤ 188743680 := by unfold a2W; split <;> omega
  refine ⟨b0, b1, b2, ?_⟩
  unfold argW
  split
  · decide
  · split <;> omega
theorem arg_parts (x y : Int) : ∃ P R A X1 X2 : Int, P = ab x ∧ R = ab y ∧ A = a0W x y ∧ X1 = (if P < R then 94371840 - A else A) ∧ X2 = (if x < 0 then 188743680 - X1 else X1) ∧ a2W x y = X2 ∧ A = (if min P R < max P R then argI 26 (max P R) (min P R) 0 else 47185920) ∧ (0 ≤ A ∧ A ≤ 47185920) ∧ (0 ≤ X1 ∧ X1 ≤ 94371840) ∧ (0 ≤ X2 ∧ X2 ≤ 188743680) := by
  obtain ⟨b0, b1, b2, b3⟩ := arg_b x y
  exact ⟨ab x, ab y, a0W x y, a1W x y, a2W x y, rfl, rfl, rfl, rfl, rfl, rfl, rfl, b0, b1, b2⟩
def cnt : Nat → Int
  | 0 => -1
  | j + 1 => (j : Nat)
theorem cnt_s (j : Nat) : cnt (j + 1) = (j : Nat) := rfl
theorem cnt_0 : cnt 0 = -1 := rfl
theorem cnt_26 : cnt 26 = 25 := rfl
theorem pow_mono2 {i j : Nat} (h : i ≤ j) : (2 : Int) ^ i ≤ 2 ^ j := by
  obtain ⟨d, rfl⟩ := Nat.exists_eq_add_of_le h
  rw [Int.pow_add]
  have a := pow_pos2 i
  have b := pow_pos2 d
  have := Int.mul_le_mul_of_nonneg_left b (show (0 : Int) ≤ 2 ^ i by omega)
  omega
theorem arg42 (x y : Int) (hx : -536870910 ≤ x ∧ x ≤ 536870910) (hy : -536870910 ≤ y ∧ y ≤ 536870910) : PFun Try.prog 42 [I x, I y] (.t [I (argW x y), I (argE x y)]) := by
  have ax := abs62 x
  have ay := abs62 y
  have n1 : wr (0 - x) = -x := by rw [wr_in (by omega) (by omega)]; omega
  have n2 : wr (0 - y) = -y := by rw [wr_in (by omega) (by omega)]; omega
  rw [n1] at ax
  rw [n2] at ay
  change PFun Try.prog 62 _ (I (ab x)) at ax
  change PFun Try.prog 62 _ (I (ab y)) at ay
  have bx : 0 ≤ ab x ∧ ab x ≤ 536870910 := by unfold ab; omega
  have by' : 0 ≤ ab y ∧ ab y ≤ 536870910 := by unfold ab; omega
  obtain ⟨P, R, A, X1, X2, hP, hR, _, hX1, hX2, e2, hA, b0, b1, b2⟩ := arg_parts x y
  unfold argW argE
  rw [e2]
  rw [← hP] at ax bx ⊢
  rw [← hR] at ay by' ⊢
  clear e2
  obtain ⟨g, hg⟩ : ∃ g, g = max P R := ⟨_, rfl⟩
  obtain ⟨s, hs⟩ : ∃ s, s = min P R := ⟨_, rfl⟩
  rw [← hg, ← hs] at hA
  rw [← hg]
  have bg : 0 ≤ g ∧ g ≤ 536870910 := by omega
  have bs : 0 ≤ s ∧ s ≤ 536870910 := by omega
  by_cases hg0 : g = 0
  · rw [if_pos hg0, if_pos hg0]
    refine PFun.intro 400 mixed Try.func42 (by kernel_rfl) rfl (by first | exact .v _ | (simp [Cl_v, Cl_t, Cl_g, Cl_fn, Cl_rp, Cl_ro]; done) | (simp [Cl_v, Cl_t, Cl_g, Cl_fn, Cl_rp, Cl_ro, or_imp, forall_and]; done) | (split <;> simp [Cl_v, Cl_t, Cl_g, Cl_fn, Cl_rp, Cl_ro])) (Nat.le_of_ble_eq_true rfl) ?_; rw [Try.ntmps42, Try.results42]
    simp -dsimp -implicitDefEqProofs only [go_sem, seval]
    refine AtFn.pure (fixedT x y (by omega) (by omega)) ?_
    simp -dsimp -implicitDefEqProofs only [go_sem, seval]
    refine AtFn.pure0 ax ?_
    simp -dsimp -implicitDefEqProofs only [go_sem, seval]
    refine AtFn.pure0 ay ?_
    simp -dsimp -implicitDefEqProofs only [go_sem, seval, ← hg]
    refine AtFn.pure0 ax ?_
    simp -dsimp -implicitDefEqProofs only [go_sem, seval]
    refine AtFn.pure0 ay ?_
    simp -dsimp -implicitDefEqProofs only [go_sem, seval, ← hs]
    simp -dsimp -implicitDefEqProofs only [go_sem, seval, hg0, true_implies]
  · rw [if_neg hg0, if_neg hg0]
    refine PFun.intro 400 mixed Try.func42 (by kernel_rfl) rfl (by first | exact .v _ | (simp [Cl_v, Cl_t, Cl_g, Cl_fn, Cl_rp, Cl_ro]; done) | (simp [Cl_v, Cl_t, Cl_g, Cl_fn, Cl_rp, Cl_ro, or_imp, forall_and]; done) | (split <;> simp [Cl_v, Cl_t, Cl_g, Cl_fn, Cl_rp, Cl_ro])) (Nat.le_of_ble_eq_true rfl) ?_; rw [Try.ntmps42, Try.results42]
    simp -dsimp -implicitDefEqProofs only [go_sem, seval]
    refine AtFn.pure (fixedT x y (by omega) (by omega)) ?_
    simp -dsimp -implicitDefEqProofs only [go_sem, seval]
    refine AtFn.pure0 ax ?_
    simp -dsimp -implicitDefEqProofs only [go_sem, seval]
    refine AtFn.pure0 ay ?_
    simp -dsimp -implicitDefEqProofs only [go_sem, seval, ← hg]
    refine AtFn.pure0 ax ?_
    simp -dsimp -implicitDefEqProofs only [go_sem, seval]
    refine AtFn.pure0 ay ?_
    simp -dsimp -implicitDefEqProofs only [go_sem, seval, ← hs]
    simp -dsimp -implicitDefEqProofs only [go_sem, seval, hg0, true_implies]
    by_cases hsg : s < g
    · rw [if_pos hsg] at hA
      simp -dsimp -implicitDefEqProofs only [go_sem, seval, hsg, true_implies]
      refine ⟨{p : Nat × Int // p.1 ≤ 26 ∧ 0 ≤ p.2 ∧ p.2 ≤ 47185920 ∧ A = argI p.1 g s p.2}, fun p => ⟨72, tl [(0, I x), (1, I y), (6, I g), (7, I s), (8, I p.1.2), (9, I (cnt p.1.1))], [], 0, .nil⟩, fun p => p.1.1,
        ⟨⟨(26, 0), by decide, by decide, by decide, hA⟩, Le.tl (Ls := []) (y := none) [] (by simp -dsimp -implicitDefEqProofs only [go_sem, seval, cnt_26]) (by simp) (by simp) (by simp) trivial⟩, fun p => ?_⟩
      obtain ⟨⟨j, a⟩, c1, c2, c3, c4⟩ := p
      simp only at c1 c2 c3 c4
      cases j with
      | zero =>
        have e : A = a := c4
        subst e
        simp -dsimp -implicitDefEqProofs only [go_sem, seval, cnt_0]
        refine AtFn.pure0 ay ?_
        simp -dsimp -implicitDefEqProofs only [go_sem, seval]
        refine AtFn.pure0 ax ?_
        simp -dsimp -implicitDefEqProofs only [go_sem, seval]
        refine ⟨fun k1 => ?_, fun k1 => ?_⟩
        · rw [if_pos k1] at hX1
          have z1 : wr (94371840 - A) = X1 := by rw [hX1]; exact wr_in (by omega) (by omega)
          refine ⟨fun k2 => ?_, fun k2 => ?_⟩
          · rw [if_pos k2] at hX2
            have z2 : wr (188743680 - X1) = X2 := by rw [hX2]; exact wr_in (by omega) (by omega)
            have z3 : wr (0 - X2) = -X2 := by rw [wr_in (by omega) (by omega)]; omega
            refine ⟨fun k3 => ?_, fun k3 => ?_⟩
            · rw [z1, z2, z3, if_pos k3]
            · rw [z1, z2, if_neg k3]
          · rw [if_neg k2] at hX2
            have z3 : wr (0 - X2) = -X2 := by rw [wr_in (by omega) (by omega)]; omega
            refine ⟨fun k3 => ?_, fun k3 => ?_⟩
            · rw [z1, ← hX2, z3, if_pos k3]
            · rw [z1, ← hX2, if_neg k3]
        · rw [if_neg k1] at hX1
          subst hX1
          refine ⟨fun k2 => ?_, fun k2 => ?_⟩
          · rw [if_pos k2] at hX2
            have z2 : wr (188743680 - X1) = X2 := by rw [hX2]; exact wr_in (by omega) (by omega)
            have z3 : wr (0 - X2) = -X2 := by rw [wr_in (by omega) (by omega)]; omega
            refine ⟨fun k3 => ?_, fun k3 => ?_⟩
            · rw [z2, z3, if_pos k3]
            · rw [z2, if_neg k3]
          · rw [if_neg k2] at hX2
            subst hX2
            have z3 : wr (0 - X2) = -X2 := by rw [wr_in (by omega) (by omega)]; omega
            refine ⟨fun k3 => ?_, fun k3 => ?_⟩
            · rw [z3, if_pos k3]
            · rw [if_neg k3]
      | succ j =>
        have hp := pow_pos2 j
        obtain ⟨q, hq⟩ : ∃ q : Int, q = 2 ^ j := ⟨_, rfl⟩
        have hsh : (2 : Int) ^ min (Int.toNat (j : Int)) 64 = q := by rw [hq, Int.toNat_natCast, Nat.min_eq_left (by omega)]
        have hq2 : q ≤ 33554432 := by
          rw [hq]
          have : (2 : Int) ^ j ≤ 2 ^ 25 := pow_mono2 (by omega)
          exact this
        rw [← hq] at hp
        simp only [argI] at c4
        rw [← hq] at c4
        have w1 : wr (1 * q) = q := by rw [Int.one_mul]; exact wr_in (by omega) (by omega)
        have w2 : wr (a + q) = a + q := wr_in (by omega) (by omega)
        have w3 : wr ((j : Int) - 1) = cnt j := by
          cases j with
          | zero => rfl
          | succ i => rw [cnt_s, wr_in (by omega) (by omega)]; omega
        simp -dsimp -implicitDefEqProofs only [go_sem, seval, cnt_s, Int.natCast_nonneg, hsh, w1, w2, w3]
        refine ⟨fun k0 => ?_, fun k0 => ?_⟩
        · rw [if_pos k0] at c4
          exact ⟨⟨(j, a), by show j ≤ 26; omega, c2, c3, c4⟩, by show j < j + 1; omega, Le.tl (Ls := []) (y := none) [] (by simp -dsimp -implicitDefEqProofs only [go_sem, seval, w3]) (by simp) (by simp) (by simp) trivial⟩
        · rw [if_neg k0] at c4
          have lb := low_b (r := a + q) (by omega) (by omega)
          refine AtFn.pure0 (sine63 (a + q) (by omega) (by omega)) ?_
          have m1 := mul_bd (a := sinW (a + q)) (A := 268435456) (b := g) (B := 536870910) (by omega) (by omega) (by omega) (by omega)
          have m2 := mul_bd (a := cosW (a + q)) (A := 268435456) (b := s) (B := 536870910) (by omega) (by omega) (by omega) (by omega)
          have w4 : wr (sinW (a + q) * g) = sinW (a + q) * g := wr_in (by omega) (by omega)
          have w5 : wr (cosW (a + q) * s) = cosW (a + q) * s := wr_in (by omega) (by omega)
          simp -dsimp -implicitDefEqProofs only [go_sem, seval, w4, w5]
          refine ⟨fun k1 => ?_, fun k1 => ?_⟩
          · rw [if_pos k1] at c4
            exact ⟨⟨(j, a + q), by show j ≤ 26; omega, by show 0 ≤ a + q; omega, by show a + q ≤ 47185920; omega, c4⟩, by show j < j + 1; omega, Le.tl (Ls := []) (y := none) [] (by simp -dsimp -implicitDefEqProofs only [go_sem, seval, w3]) (by simp) (by simp) (by simp) trivial⟩
          · rw [if_neg k1] at c4
            exact ⟨⟨(j, a), by show j ≤ 26; omega, c2, c3, c4⟩, by show j < j + 1; omega, Le.tl (Ls := []) (y := none) [] (by simp -dsimp -implicitDefEqProofs only [go_sem, seval, w3]) (by simp) (by simp) (by simp) trivial⟩
    · rw [if_neg hsg] at hA
      simp -dsimp -implicitDefEqProofs only [go_sem, seval, hsg, ← hA, true_implies]
      refine AtFn.pure0 ay ?_
      simp -dsimp -implicitDefEqProofs only [go_sem, seval]
      refine AtFn.pure0 ax ?_
      simp -dsimp -implicitDefEqProofs only [go_sem, seval]
      refine ⟨fun k1 => ?_, fun k1 => ?_⟩
      · rw [if_pos k1] at hX1
        have z1 : wr (94371840 - A) = X1 := by rw [hX1]; exact wr_in (by omega) (by omega)
        refine ⟨fun k2 => ?_, fun k2 => ?_⟩
        · rw [if_pos k2] at hX2
          have z2 : wr (188743680 - X1) = X2 := by rw [hX2]; exact wr_in (by omega) (by omega)
          have z3 : wr (0 - X2) = -X2 := by rw [wr_in (by omega) (by omega)]; omega
          refine ⟨fun k3 => ?_, fun k3 => ?_⟩
          · rw [z1, z2, z3, if_pos k3]
          · rw [z1, z2, if_neg k3]
        · rw [if_neg k2] at hX2
          have z3 : wr (0 - X2) = -X2 := by rw [wr_in (by omega) (by omega)]; omega
          refine ⟨fun k3 => ?_, fun k3 => ?_⟩
          · rw [z1, ← hX2, z3, if_pos k3]
          · rw [z1, ← hX2, if_neg k3]
      · rw [if_neg k1] at hX1
        subst hX1
        refine ⟨fun k2 => ?_, fun k2 => ?_⟩
        · rw [if_pos k2] at hX2
          have z2 : wr (188743680 - X1) = X2 := by rw [hX2]; exact wr_in (by omega) (by omega)
          have z3 : wr (0 - X2) = -X2 := by rw [wr_in (by omega) (by omega)]; omega
          refine ⟨fun k3 => ?_, fun k3 => ?_⟩
          · rw [z2, z3, if_pos k3]
          · rw [z2, if_neg k3]
        · rw [if_neg k2] at hX2
          subst hX2
          have z3 : wr (0 - X2) = -X2 := by rw [wr_in (by omega) (by omega)]; omega
          refine ⟨fun k3 => ?_, fun k3 => ?_⟩
          · rw [z3, if_pos k3]
          · rw [if_neg k3]
end

section
set_option maxRecDepth 20000
def fixS (x y : Int) : Sd := ⟨3, 0, 0, x, y⟩
def likeW (o s : Sd) (x y : Int) : Sd :=
  if o.op = 0 then (if s.op = 0 then o else if s.op = 3 then (if x = 0 ∧ y = 0 then ⟨2, o.t, 65536, o.x, o.y⟩ else ⟨1, o.t, argW x y, o.x, o.y⟩) else ⟨s.op, o.t, s.v, o.x, o.y⟩) else o
def opnW (o : Sd) : Sd := if o.op = 0 then ⟨2, o.t, 65536, o.x, o.y⟩ else o
def samePt (z w : Kn) : Prop := z.x = w.x ∧ z.y = w.y
instance (z w : Kn) : Decidable (samePt z w) := by unfold samePt; infer_instance
def s1A (l : List Kn) (k : Nat) : List Kn := l.set k ⟨(l.getD k zK).x, (l.getD k zK).y, (l.getD k zK).c, fixS (l.getD ((k + 1) % l.length) zK).x (l.getD ((k + 1) % l.length) zK).y⟩
def s1B (l : List Kn) (j : Nat) (s : Sd) : List Kn := l.set j ⟨(l.getD j zK).x, (l.getD j zK).y, s, (l.getD j zK).l⟩
def s1C (l : List Kn) (k : Nat) : Prop := (l.getD k zK).l.op ≠ 3 ∧ samePt (l.getD k zK) (l.getD ((k + 1) % l.length) zK)
instance (l : List Kn) (k : Nat) : Decidable (s1C l k) := by unfold s1C; infer_instance
def s1 (l : List Kn) (k : Nat) : List Kn := if s1C l k then s1B (s1A l k) ((k + 1) % l.length) (fixS (l.getD ((k + 1) % l.length) zK).x (l.getD ((k + 1) % l.length) zK).y) else l
def s1N : Nat → List Kn → List Kn
  | 0, l => l
  | i + 1, l => s1 (s1N i l) i
def s2 (k : Kn) : Kn := ⟨k.x, k.y, likeW k.c k.l (k.l.x - k.x) (k.l.y - k.y), likeW k.l k.c (k.x - k.c.x) (k.y - k.c.y)⟩
def skipC (c : Bool) (n i : Nat) : Prop := c = false ∧ (i = 0 ∨ i + 1 = n)
instance (c : Bool) (n i : Nat) : Decidable (skipC c n i) := by unfold skipC; infer_instance
def s2N (c : Bool) : Nat → List Kn → List Kn
  | 0, l => l
  | i + 1, l => if skipC c l.length i then s2N c i l else (s2N c i l).set i (s2 ((s2N c i l).getD i zK))
def s3A (l : List Kn) : List Kn := l.set 0 ⟨(l.getD 0 zK).x, (l.getD 0 zK).y, (l.getD 0 zK).c, opnW (l.getD 0 zK).l⟩
def s3B (l : List Kn) : List Kn := l.set (l.length - 1) ⟨(l.getD (l.length - 1) zK).x, (l.getD (l.length - 1) zK).y, opnW (l.getD (l.length - 1) zK).c, (l.getD (l.length - 1) zK).l⟩
def s3 (c : Bool) (l : List Kn) : List Kn := if c then l else s3B (s3A l)
def settledW (l : List Kn) (c : Bool) : List Kn := s3 c (s2N c l.length (s1N (segs l c) l))
theorem s1_len (l : List Kn) (k : Nat) : (s1 l k).length = l.length := by
  unfold s1 s1A s1B
  split <;> simp
theorem s1N_len : ∀ (i : Nat) (l : List Kn), (s1N i l).length = l.length
  | 0, l => rfl
  | i + 1, l => by rw [s1N, s1_len, s1N_len i l]
theorem s2N_len (c : Bool) : ∀ (i : Nat) (l : List Kn), (s2N c i l).length = l.length
  | 0, l => rfl
  | i + 1, l => by
    rw [s2N]
    split
    · exact s2N_len c i l
    · rw [List.length_set]; exact s2N_len c i l
theorem s3_len (c : Bool) (l : List Kn) : (s3 c l).length = l.length := by unfold s3 s3B s3A; split <;> simp
theorem settled_len (l : List Kn) (c : Bool) : (settledW l c).length = l.length := by unfold settledW; rw [s3_len, s2N_len, s1N_len]
def bK (k : Kn) : Prop := inP (k.x, k.y) = true ∧ inP (k.c.x, k.c.y) = true ∧ inP (k.l.x, k.l.y) = true
theorem okSd_pt {s : Sd} (h : okSd s = true) : inP (s.x, s.y) = true := by
  unfold okSd at h
  split at h
  · simp only [Bool.and_eq_true] at h; exact h.2.2
  · simp only [Bool.and_eq_true, decide_eq_true_eq] at h
    rw [h.1.1, h.1.2]; decide
theorem okKn_b {k : Kn} (h : okKn k = true) : bK k := by
  simp only [okKn, Bool.and_eq_true] at h
  exact ⟨h.1, okSd_pt h.2.1, okSd_pt h.2.2⟩
def bKs (l : List Kn) : Prop := ∀ i, i < l.length → bK (l.getD i zK)
theorem getD_set {l : List Kn} {i j : Nat} {k : Kn} (h : j < l.length) : (l.set i k).getD j zK = if i = j then k else l.getD j zK := by
  simp only [List.getD, List.getElem?_set]
  split
  · rename_i e; subst e; simp [h]
  · rfl
theorem bKs_set {l : List Kn} (h : bKs l) (i : Nat) {k : Kn} (hk : bK k) : bKs (l.set i k) := by
  intro j hj
  rw [List.length_set] at hj
  rw [getD_set hj]
  split
  · exact hk
  · exact h j hj
theorem s1_b {l : List Kn} (h : bKs l) {k : Nat} (hk : k < l.length) : bKs (s1 l k) := by
  have hj : (k + 1) % l.length < l.length := Nat.mod_lt _ (by omega)
  unfold s1
  split
  · have a := h k hk
    have b := h _ hj
    have h1 : bKs (s1A l k) := bKs_set h k ⟨a.1, a.2.1, b.1⟩
    have hl : (s1A l k).length = l.length := by unfold s1A; simp
    have c := h1 ((k + 1) % l.length) (by rw [hl]; exact hj)
    exact bKs_set h1 _ ⟨c.1, b.1, c.2.2⟩
  · exact h
theorem s1N_b {l : List Kn} (h : bKs l) : ∀ i, i ≤ l.length → bKs (s1N i l)
  | 0, _ => h
  | i + 1, hi => s1_b (s1N_b h i (by omega)) (by rw [s1N_len]; omega)
theorem likeW_xy (o s : Sd) (x y : Int) : (likeW o s x y).x = o.x ∧ (likeW o s x y).y = o.y := by
  unfold likeW
  split
  · split
    · exact ⟨rfl, rfl⟩
    · split
      · split <;> exact ⟨rfl, rfl⟩
      · exact ⟨rfl, rfl⟩
  · exact ⟨rfl, rfl⟩
theorem s2_b {k : Kn} (h : bK k) : bK (s2 k) := by
  unfold bK s2 at *
  simp only [(likeW_xy k.c k.l _ _).1, (likeW_xy k.c k.l _ _).2, (likeW_xy k.l k.c _ _).1, (likeW_xy k.l k.c _ _).2]
  exact h
theorem s2N_b (c : Bool) {l : List Kn} (h : bKs l) : ∀ i, i ≤ l.length → bKs (s2N c i l)
  | 0, _ => h
  | i + 1, hi => by
    have ih := s2N_b c h i (by omega)
    rw [s2N]
    split
    · exact ih
    · exact bKs_set ih i (s2_b (ih i (by rw [s2N_len]; omega)))
theorem opnW_xy (o : Sd) : (opnW o).x = o.x ∧ (opnW o).y = o.y := by unfold opnW; split <;> exact ⟨rfl, rfl⟩
theorem s3_b (c : Bool) {l : List Kn} (h : bKs l) (hl : 0 < l.length) : bKs (s3 c l) := by
  unfold s3
  split
  · exact h
  · have a := h 0 hl
    have h1 : bKs (s3A l) := bKs_set h 0 ⟨a.1, a.2.1, by rw [(opnW_xy _).1, (opnW_xy _).2]; exact a.2.2⟩
    have hl2 : (s3A l).length = l.length := by unfold s3A; simp
    have b := h1 ((s3A l).length - 1) (by omega)
    exact bKs_set h1 _ ⟨b.1, by rw [(opnW_xy _).1, (opnW_xy _).2]; exact b.2.1, b.2.2⟩
theorem settled_b {l : List Kn} {c : Bool} (h : bKs l) (hl : 0 < l.length) : bKs (settledW l c) := by
  unfold settledW
  refine s3_b c ?_ (by rw [s2N_len, s1N_len]; exact hl)
  have := s2N_b c (s1N_b h (segs l c) segs_le) l.length (by rw [s1N_len]; exact Nat.le_refl _)
  exact this
theorem valid_b {l : List Kn} {c : Bool} (h : validK l c = true) : bKs l := by
  intro i hi
  simp only [validK, Bool.and_eq_true] at h
  have h2 := h.1.2
  rw [List.all_eq_true] at h2
  exact okKn_b (h2 _ (List.mem_of_getElem? (getK hi)))
theorem valid_len {l : List Kn} {c : Bool} (h : validK l c = true) : 1 ≤ l.length ∧ l.length ≤ 201 := by
  simp only [validK, Bool.and_eq_true, decide_eq_true_eq] at h
  have := h.1.1.2
  unfold segs at this
  split at this <;> omega
theorem oneKn (l : List Kn) : ∀ c ∈ l.map KnC, ∀ x ∈ c, oneA x = true := by
  intro c hc x hx
  obtain ⟨k, _, rfl⟩ := List.mem_map.1 hc
  simp at hx
  rcases hx with rfl | rfl | rfl | rfl | rfl | rfl | rfl | rfl | rfl | rfl | rfl | rfl <;> rfl
attribute [local go_sem] eqk27' clKnsL
theorem clone43 (l : List Kn) (hl : l.length < 2 ^ 30) : NFun Try.prog 43 [Kns l] 12 (l.map KnC) := by
  refine MFun.toN ?_ ((clKnsL l).2 trivial)
  refine MFun.intro 400 [2] mixed Try.func43 (by kernel_rfl) rfl (by rw [Try.results43]; rfl) (Nat.le_of_ble_eq_true rfl) ?_; rw [Try.ntmps43]
  simp -dsimp -implicitDefEqProofs only [go_sem, seval]
  refine AtOp.isnil (d := 34) rfl (by kernel_rfl) (by simp -dsimp -implicitDefEqProofs only [go_sem, seval]; rfl) fun b hb => ?_
  simp -dsimp -implicitDefEqProofs only [go_sem, seval]
  refine ⟨fun h => ?_, fun h => ?_⟩
  · have hl0 : l = [] := by
      cases l with
      | nil => rfl
      | cons x r => exact absurd (hb (by simp)) (by rw [h]; simp)
    subst hl0
    exact FinM.mk0 [] (by simp -dsimp -implicitDefEqProofs only [go_sem, seval]) (by simp -dsimp -implicitDefEqProofs only [go_sem, seval]) (by simp) (by simp [sg])
  · have hl2 : l.length ≤ 274877906944 := by omega
    simp -dsimp -implicitDefEqProofs only [go_sem, seval, List.length_map]
    refine ⟨by omega, oneKn l, FinM.mk0 [(0, 1)] (by simp -dsimp -implicitDefEqProofs only [go_sem, seval]) (by simp -dsimp -implicitDefEqProofs only [go_sem, seval]; exact renL_cl rfl ((clKnsL l).2 trivial)) (by simp) (by simp [sg])⟩
end

section
set_option maxRecDepth 20000
attribute [local go_sem] eqk27' clKnsL
theorem setKn (l : List Kn) (i : Nat) (k : Kn) : (l.map KnC).set i (KnC k) = (l.set i k).map KnC := by rw [List.map_set]
theorem getKn {l : List Kn} {i : Nat} (h : i < l.length) : (l.map KnC)[i]? = some (KnC (l.getD i zK)) := by rw [List.getElem?_map, getK h]; rfl
theorem takeKn (l : List Kn) : takeA 0 l.length (l.map KnC) = l.map KnC := by rw [takeA_eq, List.drop_zero, List.take_of_length_le (by simp)]
theorem setSelf {α : Type} {l : List α} {i : Nat} {x : α} (h : l[i]? = some x) : l.set i x = l := by
  obtain ⟨hi, rfl⟩ := List.getElem?_eq_some_iff.1 h
  exact List.set_getElem_self hi
theorem renL_cl2 {σ : Nat → Nat} {ns : List Nat} {l l' : List (List AV)} (h : l = l') (hc : ∀ c ∈ l', ∀ s ∈ c, Cl s) : RenL σ ns l l' := renL_cl h (h ▸ hc)
theorem AtLoop.st {rec : List It → (AState → Prop) → AState → Prop} {b : Code} {k : List It} {Q : AState → Prop} {n : Nat} {x : Aux} {t : Nat → AV} {h : List (Nat × Blk)} {kk : Nat} (I : Nat → List (Nat × Blk) → (Nat → AV) → Prop) (m0 : Nat) (h0 : I m0 h t)
    (hstep : ∀ (m : Nat) (h : List (Nat × Blk)) (t : Nat → AV) (kk : Nat), I m h t → rec (.c b :: .lp (fun s' => ∃ j : {p : Nat × List (Nat × Blk) × (Nat → AV) × Nat // I p.1 p.2.1 p.2.2.1}, j.1.1 < m ∧ Le s' ⟨n, j.1.2.2.1, j.1.2.1, j.1.2.2.2, x⟩) :: k) Q ⟨n, t, h, kk, x⟩) : AtLoop rec b k Q ⟨n, t, h, kk, x⟩ :=
  ⟨{p : Nat × List (Nat × Blk) × (Nat → AV) × Nat // I p.1 p.2.1 p.2.2.1}, fun j => ⟨n, j.1.2.2.1, j.1.2.1, j.1.2.2.2, x⟩, fun j => j.1.1, ⟨⟨(m0, h, t, kk), h0⟩, fun _ _ _ h => h⟩, fun i => hstep i.1.1 i.1.2.1 i.1.2.2.1 i.1.2.2.2 i.2⟩
theorem st_mk {I : Nat → List (Nat × Blk) → (Nat → AV) → Prop} {n m : Nat} {x : Aux} {t' : Nat → AV} {h' : List (Nat × Blk)} {kk' : Nat} (m' : Nat) (h1 : m' < m) (h2 : I m' h' t') : ∃ j : {p : Nat × List (Nat × Blk) × (Nat → AV) × Nat // I p.1 p.2.1 p.2.2.1}, j.1.1 < m ∧ Le ⟨n, t', h', kk', x⟩ ⟨n, j.1.2.2.1, j.1.2.1, j.1.2.2.2, x⟩ :=
  ⟨⟨(m', h', t', kk'), h2⟩, h1, fun _ _ _ h => h⟩
def s3I (l : List Kn) : Nat → List Kn
  | 0 => l
  | 1 => s3A l
  | _ => s3B (s3A l)
def endI (cur : List Kn) (m : Nat) (h : List (Nat × Blk)) (t : Nat → AV) : Prop :=
  m ≤ 2 ∧ t 0 = .sl 0 0 cur.length ∧ t 132 = .ro 1 [[.ptr 0 0 7], [.ptr 0 (cur.length - 1) 2]] ∧ t 133 = I 2 ∧ t 134 = I ((2 - m : Nat) : Int) ∧ h = [(0, ⟨12, (s3I cur (2 - m)).map KnC⟩)]
theorem setGetD (l : List Kn) (i : Nat) : l.set i (l.getD i zK) = l := by
  by_cases h : i < l.length
  · exact setSelf (getK h)
  · exact List.set_eq_of_length_le (by omega)
set_option maxHeartbeats 4000000 in
theorem settled26 (l : List Kn) (c : Bool) (hv : validK l c = true) : NFun Try.prog 26 [Kns l, Bo c] 12 ((settledW l c).map KnC) := by
  obtain ⟨hl1, hl2⟩ := valid_len hv
  have hb := valid_b hv
  have hsl := segs_le (l := l) (c := c)
  refine MFun.toN ?_ ((clKnsL _).2 trivial)
  refine MFun.intro 400 [4] mixed Try.func26 (by kernel_rfl) rfl (by rw [Try.results26]; rfl) (Nat.le_of_ble_eq_true rfl) ?_; rw [Try.ntmps26]
  simp -dsimp -implicitDefEqProofs only [go_sem, seval]
  refine AtFn.new (clone43 l (by omega)) ?_
  simp -dsimp -implicitDefEqProofs only [go_sem, seval]
  refine AtFn.keep (many31 l c hl1 (by omega)) ?_
  simp -dsimp -implicitDefEqProofs only [go_sem, seval, List.length_map, Nat.zero_add, Nat.le_refl, takeKn]
  obtain ⟨n, hn⟩ : ∃ n, n = segs l c := ⟨_, rfl⟩
  have hnl : n ≤ l.length := by omega
  rw [← hn]
  refine ⟨{i : Nat // i ≤ n}, fun i => ⟨151, tl [(0, .sl 0 0 l.length), (1, Bo c), (19, I (n : Nat)), (20, I i.1)], [(0, ⟨12, (s1N i.1 l).map KnC⟩)], 1, ⟨[tl []], some (.mp none)⟩⟩, fun i => n - i.1,
    ⟨⟨0, by omega⟩, Le.tl (Ls := [[]]) [] (by simp -dsimp -implicitDefEqProofs only [go_sem, seval]) ?_ (by simp) (by simp [sg]) ⟨by simp -dsimp -implicitDefEqProofs only [go_sem, seval], trivial⟩⟩, fun i => ?_⟩
  · simp -dsimp -implicitDefEqProofs only [go_sem, seval]
    exact renL_cl rfl ((clKnsL _).2 trivial)
  obtain ⟨i, hi⟩ := i
  simp -dsimp -implicitDefEqProofs only [go_sem, seval, List.length_map]
  refine ⟨fun h => ?_, fun hout => ?_⟩
  · have hlt : i < n := by omega
    have hil : i < l.length := by omega
    obtain ⟨cur, hcur⟩ : ∃ cur, cur = s1N i l := ⟨_, rfl⟩
    have hcl : cur.length = l.length := by rw [hcur, s1N_len]
    have hjl : (i + 1) % cur.length < cur.length := Nat.mod_lt _ (by omega)
    have e3 : wr ((i : Int) + 1) = ((i + 1 : Nat) : Int) := by rw [wr_in] <;> omega
    have e4 : (((i + 1 : Nat) : Int)).tmod (l.length : Int) = (((i + 1) % l.length : Nat) : Int) := tmodN _ _
    have e5 : wr (((i + 1) % l.length : Nat) : Int) = (((i + 1) % l.length : Nat) : Int) := wr_in (by omega) (by rw [← hcl]; omega)
    rw [← hcl] at e4 e5
    have hgi := getKn (l := cur) (i := i) (by omega)
    have hgj := getKn hjl
    obtain ⟨z, hz⟩ : ∃ z, z = cur.getD i zK := ⟨_, rfl⟩
    obtain ⟨j, hj⟩ : ∃ j, j = (i + 1) % cur.length := ⟨_, rfl⟩
    obtain ⟨w, hw⟩ : ∃ w, w = cur.getD j zK := ⟨_, rfl⟩
    rw [← hj] at hjl hgj e4 e5
    rw [← hz] at hgi
    rw [← hw] at hgj
    have hs : s1N (i + 1) l = s1 cur i := by rw [s1N, ← hcur]
    have hn0 : ¬ ((cur.length : Nat) : Int) = 0 := by omega
    have c1 : (i : Int) < ((cur.length : Nat) : Int) := by omega
    have c2 : (j : Int) < ((cur.length : Nat) : Int) := by omega
    rw [← hcl, ← hcur]
    simp -dsimp -implicitDefEqProofs only [go_sem, seval, e3, e4, e5, hn0, c1, c2, Int.toNat_natCast, Int.natCast_nonneg, hgi, hgj, Nat.zero_add]
    refine AtCode.draw 19 [([], []), ([], []), ([0, 1], []), ([0, 1, 2], []), ([0, 1, 2, 3], []), ([0, 1, 2, 3, 4], []), ([0, 1, 2, 3, 4, 5], []), ([0, 1, 2, 3, 4, 5, 6], []), ([0, 1, 2, 3, 4, 5, 6, 7], []), ([0, 1, 2, 3, 4, 5, 6, 7], []), ([0, 1, 2, 3, 4, 5, 6, 7, 8, 9], []), ([0, 1, 2, 3, 4, 5, 6, 7, 8, 9, 10], []), ([0, 1, 2, 3, 4, 5, 6, 7, 8, 9, 10, 11], []), ([0, 1, 2, 3, 4, 5, 6, 7], []), ([0, 1, 2, 3, 4, 5, 6, 7, 13], []), ([0, 1, 2, 3, 4, 5, 6, 7, 13, 14], []), ([0, 1, 2, 3, 4, 5, 6, 7, 13, 14, 15], []), ([0, 1, 2, 3, 4, 5, 6, 7, 8, 9, 10, 11, 12, 13, 14, 15, 16], []), ([0, 1, 2, 3, 4, 5, 6, 7, 8, 9, 10, 11, 12, 13, 14, 15, 16, 17], [])] (by kernel_rfl) ?_
    by_cases k1 : z.l.op = 3
    · simp -dsimp -implicitDefEqProofs only [go_sem, seval, c1, c2, Int.toNat_natCast, Int.natCast_nonneg, hgi, hgj, Nat.zero_add, k1]
      have hno : s1 cur i = cur := by unfold s1; rw [if_neg (fun q => q.1 (by rw [← hz]; exact k1))]
      refine ⟨⟨i + 1, by omega⟩, by show n - (i + 1) < n - i; omega, Le.tl (Ls := [[]]) [] (by simp -dsimp -implicitDefEqProofs only [go_sem, seval, e3]) ?_ (by simp) (by simp [sg]) ⟨by simp -dsimp -implicitDefEqProofs only [go_sem, seval], trivial⟩⟩
      simp -dsimp -implicitDefEqProofs only [go_sem, seval, hs, hno]
      exact renL_cl rfl ((clKnsL _).2 trivial)
    by_cases k2 : [z.x, z.y] = [w.x, w.y]
    · have k3 : z.x = w.x ∧ z.y = w.y := by simpa using k2
      have hyes : s1 cur i = s1B (s1A cur i) j (fixS w.x w.y) := by
        unfold s1
        rw [if_pos, ← hj, ← hw]
        refine ⟨by rw [← hz]; exact k1, ?_⟩
        rw [← hz, ← hj, ← hw]
        exact k3
      obtain ⟨l1, hl1'⟩ : ∃ l1, l1 = s1A cur i := ⟨_, rfl⟩
      rw [← hl1'] at hyes
      have hl1l : l1.length = cur.length := by rw [hl1']; unfold s1A; simp
      have hset1 : (cur.map KnC).set i [I z.x, I z.y, I z.c.op, I z.c.t, I z.c.v, I z.c.x, I z.c.y, I 3, I 0, I 0, I w.x, I w.y] = l1.map KnC := by
        rw [hl1']
        unfold s1A
        rw [← setKn, ← hj, ← hz, ← hw]
        rfl
      have hg1i := getKn (l := l1) (i := i) (by omega)
      have hg1j := getKn (l := l1) (i := j) (by omega)
      have hl1i : (l1.getD i zK).l = fixS w.x w.y := by
        rw [hl1']
        unfold s1A
        rw [getD_set (by omega), if_pos rfl, ← hj, ← hw]
      obtain ⟨v, hv1⟩ : ∃ v, v = l1.getD j zK := ⟨_, rfl⟩
      obtain ⟨z1, hz1⟩ : ∃ z1, z1 = l1.getD i zK := ⟨_, rfl⟩
      rw [← hv1] at hg1j
      rw [← hz1] at hg1i hl1i
      have f1 : z1.l.op = 3 := by rw [hl1i]; rfl
      have f2 : z1.l.t = 0 := by rw [hl1i]; rfl
      have f3 : z1.l.v = 0 := by rw [hl1i]; rfl
      have f4 : z1.l.x = w.x := by rw [hl1i]; rfl
      have f5 : z1.l.y = w.y := by rw [hl1i]; rfl
      have hset2 : (l1.map KnC).set j [I v.x, I v.y, I 3, I 0, I 0, I w.x, I w.y, I v.l.op, I v.l.t, I v.l.v, I v.l.x, I v.l.y] = (s1 cur i).map KnC := by
        rw [hyes]
        unfold s1B
        rw [← setKn, ← hv1]
        rfl
      simp -dsimp -implicitDefEqProofs only [go_sem, seval, c1, c2, Int.toNat_natCast, Int.natCast_nonneg, hgi, hgj, Nat.zero_add, k1, k2, hset1, hg1i, hg1j, f1, f2, f3, f4, f5, hset2]
      refine ⟨⟨i + 1, by omega⟩, by show n - (i + 1) < n - i; omega, Le.tl (Ls := [[]]) [] (by simp -dsimp -implicitDefEqProofs only [go_sem, seval, e3]) ?_ (by simp) (by simp [sg]) ⟨by simp -dsimp -implicitDefEqProofs only [go_sem, seval], trivial⟩⟩
      simp -dsimp -implicitDefEqProofs only [go_sem, seval, hs]
      exact renL_cl rfl ((clKnsL _).2 trivial)
    · simp -dsimp -implicitDefEqProofs only [go_sem, seval, c1, c2, Int.toNat_natCast, Int.natCast_nonneg, hgi, hgj, Nat.zero_add, k1, k2]
      have hno : s1 cur i = cur := by
        unfold s1
        rw [if_neg]
        rintro ⟨q1, q2⟩
        rw [← hz, ← hj, ← hw] at q2
        exact k2 (by rw [q2.1, q2.2])
      refine ⟨⟨i + 1, by omega⟩, by show n - (i + 1) < n - i; omega, Le.tl (Ls := [[]]) [] (by simp -dsimp -implicitDefEqProofs only [go_sem, seval, e3]) ?_ (by simp) (by simp [sg]) ⟨by simp -dsimp -implicitDefEqProofs only [go_sem, seval], trivial⟩⟩
      simp -dsimp -implicitDefEqProofs only [go_sem, seval, hs, hno]
      exact renL_cl rfl ((clKnsL _).2 trivial)
  · have : i = n := by omega
    subst this
    obtain ⟨l1, hl1'⟩ : ∃ l1, l1 = s1N i l := ⟨_, rfl⟩
    have hll : l1.length = l.length := by rw [hl1', s1N_len]
    have hb1 : bKs l1 := by rw [hl1']; exact s1N_b hb i hnl
    have hset : settledW l c = s3 c (s2N c l.length l1) := by unfold settledW; rw [hl1', hn]
    rw [hset, ← hl1']
    refine ⟨{i : Nat // i ≤ l.length}, fun i => ⟨151, tl [(0, .sl 0 0 l.length), (1, Bo c), (68, I (l.length : Nat)), (69, I i.1)], [(0, ⟨12, (s2N c i.1 l1).map KnC⟩)], 1, ⟨[tl []], some (.mp none)⟩⟩, fun i => l.length - i.1,
      ⟨⟨0, by omega⟩, Le.tl (Ls := [[]]) [] (by simp -dsimp -implicitDefEqProofs only [go_sem, seval]) ?_ (by simp) (by simp [sg]) ⟨by simp -dsimp -implicitDefEqProofs only [go_sem, seval], trivial⟩⟩, fun k => ?_⟩
    · simp -dsimp -implicitDefEqProofs only [go_sem, seval]
      exact renL_cl rfl ((clKnsL _).2 trivial)
    clear hout
    obtain ⟨k, hk⟩ := k
    simp -dsimp -implicitDefEqProofs only [go_sem, seval, List.length_map]
    refine ⟨fun h => ?_, fun hout => ?_⟩
    · have hkl : k < l.length := by omega
      obtain ⟨cur, hcur⟩ : ∃ cur, cur = s2N c k l1 := ⟨_, rfl⟩
      have hcl : cur.length = l.length := by rw [hcur, s2N_len, hll]
      have e3 : wr ((k : Int) + 1) = ((k + 1 : Nat) : Int) := by rw [wr_in] <;> omega
      have e4 : wr (((cur.length : Nat) : Int) - 1) = ((cur.length - 1 : Nat) : Int) := by rw [wr_in] <;> omega
      have hg := getKn (l := cur) (i := k) (by omega)
      obtain ⟨z, hz⟩ : ∃ z, z = cur.getD k zK := ⟨_, rfl⟩
      rw [← hz] at hg
      have hbz : bK z := by rw [hz, hcur]; exact s2N_b c hb1 k (by omega) k (by rw [s2N_len]; omega)
      have c1 : (k : Int) < ((cur.length : Nat) : Int) := by omega
      have hs : s2N c (k + 1) l1 = if skipC c cur.length k then cur else cur.set k (s2 z) := by rw [s2N, ← hcur, hll, ← hcl, ← hz]
      obtain ⟨hbz1, hbz2, hbz3⟩ := hbz
      have hbz1 := inP_bd hbz1
      have hbz2 := inP_bd hbz2
      have hbz3 := inP_bd hbz3
      simp only at hbz1 hbz2 hbz3
      have m1 : wr (z.x - z.c.x) = z.x - z.c.x := wr_in (by omega) (by omega)
      have m2 : wr (z.y - z.c.y) = z.y - z.c.y := wr_in (by omega) (by omega)
      have m3 : wr (z.l.x - z.x) = z.l.x - z.x := wr_in (by omega) (by omega)
      have m4 : wr (z.l.y - z.y) = z.l.y - z.y := wr_in (by omega) (by omega)
      have mi1 := minus40 (z.x, z.y) (z.c.x, z.c.y)
      have mi2 := minus40 (z.l.x, z.l.y) (z.x, z.y)
      simp only [m1, m2] at mi1
      simp only [m3, m4] at mi2
      have a1 := arg42 (z.x - z.c.x) (z.y - z.c.y) (by omega) (by omega)
      have a2 := arg42 (z.l.x - z.x) (z.l.y - z.y) (by omega) (by omega)
      rw [← hcl, ← hcur]
      by_cases hsk : skipC c cur.length k
      · rw [if_pos hsk] at hs
        obtain ⟨rfl, hsk⟩ := hsk
        by_cases k0 : (k : Int) = 0
        · simp -dsimp -implicitDefEqProofs only [go_sem, seval, eq_true k0, e4, c1, Int.toNat_natCast, Int.natCast_nonneg, hg, Nat.zero_add]
          refine ⟨⟨k + 1, by omega⟩, by show cur.length - (k + 1) < cur.length - k; omega, Le.tl (Ls := [[]]) [] (by simp -dsimp -implicitDefEqProofs only [go_sem, seval, e3]) ?_ (by simp) (by simp [sg]) ⟨by simp -dsimp -implicitDefEqProofs only [go_sem, seval], trivial⟩⟩
          simp -dsimp -implicitDefEqProofs only [go_sem, seval, hs]
          exact renL_cl rfl ((clKnsL _).2 trivial)
        · have k1 : (k : Int) = ((cur.length - 1 : Nat) : Int) := by omega
          simp -dsimp -implicitDefEqProofs only [go_sem, seval, k0, eq_true k1, e4, c1, Int.toNat_natCast, Int.natCast_nonneg, hg, Nat.zero_add]
          refine ⟨⟨k + 1, by omega⟩, by show cur.length - (k + 1) < cur.length - k; omega, Le.tl (Ls := [[]]) [] (by simp -dsimp -implicitDefEqProofs only [go_sem, seval, e3]) ?_ (by simp) (by simp [sg]) ⟨by simp -dsimp -implicitDefEqProofs only [go_sem, seval], trivial⟩⟩
          simp -dsimp -implicitDefEqProofs only [go_sem, seval, hs]
          exact renL_cl rfl ((clKnsL _).2 trivial)
      · rw [if_neg hsk] at hs
        have g1 : z.l.op = 0 → z.c.op = 0 → (cur.map KnC) = (cur.set k (s2 z)).map KnC := fun q1 q2 => by
          have : s2 z = z := by simp [s2, likeW, q1, q2]
          rw [this, hz, ← setKn]
          rw [hz] at hg; exact (setSelf hg).symm
        have g2 : ¬ z.l.op = 0 → ¬ z.c.op = 0 → (cur.map KnC) = (cur.set k (s2 z)).map KnC := fun q1 q2 => by
          have : s2 z = z := by simp [s2, likeW, q1, q2]
          rw [this, hz, ← setKn]
          rw [hz] at hg; exact (setSelf hg).symm
        have fin : ∀ L, L = KnC (s2 z) → (cur.map KnC).set k L = (cur.set k (s2 z)).map KnC := fun L h => by rw [h, setKn]
        have gs : ∀ x : List AV, ((cur.map KnC).set k x)[k]? = some x := fun x => List.getElem?_set_self (by rw [List.length_map]; omega)
        cases c with
        | true =>
          by_cases p1 : z.l.op = 0
          · by_cases p2 : z.c.op = 0
            · skip
              simp -dsimp -implicitDefEqProofs only [go_sem, seval, e4, e4, c1, Int.toNat_natCast, Int.natCast_nonneg, hg, Nat.zero_add]
              refine AtCode.drawB 10 [([], []), ([0], []), ([0, 1], []), ([0, 1, 2], []), ([], [9]), ([4], [9]), ([4, 5], [9]), ([4, 5, 6], [9]), ([], []), ([], []), ([0, 1, 2, 3, 8, 9], []), ([0, 1, 2, 3, 4, 5, 6, 7, 8, 9, 10], [])] [false, true] (by kernel_rfl) ?_
              simp -dsimp -implicitDefEqProofs only [go_sem, seval, e4, c1, Int.toNat_natCast, Int.natCast_nonneg, hg, Nat.zero_add]
              refine ⟨by kernel_rfl, ?_⟩
              refine AtCode.draw 11 [([], []), ([0], []), ([0, 1], []), ([], []), ([], []), ([4], []), ([4, 5], []), ([4, 5, 6], []), ([], []), ([8], []), ([4, 5, 6, 7, 8, 9], []), ([0, 1, 2, 3, 4, 5, 6, 7, 8, 9, 10], [])] (by kernel_rfl) ?_
              simp -dsimp -implicitDefEqProofs only [go_sem, seval, e4, c1, Int.toNat_natCast, Int.natCast_nonneg, hg, Nat.zero_add]
              refine QFn.use _ mi1 (by simp -dsimp -implicitDefEqProofs only [go_sem, seval]) ?_
              simp -dsimp -implicitDefEqProofs only [go_sem, seval, e4, c1, Int.toNat_natCast, Int.natCast_nonneg, hg, Nat.zero_add]
              refine AtFn.inl 400 [] mixed Try.func44 (by kernel_rfl) rfl (by rw [Try.results44]; rfl) (Nat.le_of_ble_eq_true rfl) ?_; rw [Try.ntmps44]
              simp -dsimp -implicitDefEqProofs only [go_sem, seval, p1, p2, hg]
              refine AtCode.draw 11 [([], []), ([0], []), ([0, 1], []), ([], []), ([], []), ([4], []), ([], []), ([6], []), ([6, 7], []), ([6, 7, 8], []), ([4, 5, 6, 7, 8, 9], []), ([0, 1, 2, 3, 4, 5, 6, 7, 8, 9, 10], [])] (by kernel_rfl) ?_
              simp -dsimp -implicitDefEqProofs only [go_sem, seval, c1, Int.toNat_natCast, Int.natCast_nonneg, hg, Nat.zero_add, gs]
              refine QFn.use _ mi2 (by simp -dsimp -implicitDefEqProofs only [go_sem, seval]) ?_
              simp -dsimp -implicitDefEqProofs only [go_sem, seval, c1, Int.toNat_natCast, Int.natCast_nonneg, hg, Nat.zero_add, gs]
              refine AtFn.inl 400 [] mixed Try.func44 (by kernel_rfl) rfl (by rw [Try.results44]; rfl) (Nat.le_of_ble_eq_true rfl) ?_; rw [Try.ntmps44]
              simp -dsimp -implicitDefEqProofs only [go_sem, seval, p1, p2, hg]
              refine ⟨⟨k + 1, by omega⟩, by show cur.length - (k + 1) < cur.length - k; omega, Le.tl (Ls := [[]]) [] (by simp -dsimp -implicitDefEqProofs only [go_sem, seval, e3]) ?_ (by simp) (by simp [sg]) ⟨by simp -dsimp -implicitDefEqProofs only [go_sem, seval], trivial⟩⟩
              simp -dsimp -implicitDefEqProofs only [go_sem, seval, hs]
              exact renL_cl2 (g1 p1 p2) ((clKnsL _).2 trivial)
            · by_cases p3 : z.c.op = 3
              · by_cases p4 : [z.x - z.c.x, z.y - z.c.y] = [0, 0]
                · have p5 : z.x - z.c.x = 0 ∧ z.y - z.c.y = 0 := by simpa using p4
                  simp -dsimp -implicitDefEqProofs only [go_sem, seval, e4, e4, c1, Int.toNat_natCast, Int.natCast_nonneg, hg, Nat.zero_add]
                  refine AtCode.drawB 10 [([], []), ([0], []), ([0, 1], []), ([0, 1, 2], []), ([], [9]), ([4], [9]), ([4, 5], [9]), ([4, 5, 6], [9]), ([], []), ([], []), ([0, 1, 2, 3, 8, 9], []), ([0, 1, 2, 3, 4, 5, 6, 7, 8, 9, 10], [])] [false, true] (by kernel_rfl) ?_
                  simp -dsimp -implicitDefEqProofs only [go_sem, seval, e4, c1, Int.toNat_natCast, Int.natCast_nonneg, hg, Nat.zero_add]
                  refine ⟨by kernel_rfl, ?_⟩
                  refine AtCode.draw 11 [([], []), ([0], []), ([0, 1], []), ([], []), ([], []), ([4], []), ([4, 5], []), ([4, 5, 6], []), ([], []), ([8], []), ([4, 5, 6, 7, 8, 9], []), ([0, 1, 2, 3, 4, 5, 6, 7, 8, 9, 10], [])] (by kernel_rfl) ?_
                  simp -dsimp -implicitDefEqProofs only [go_sem, seval, e4, c1, Int.toNat_natCast, Int.natCast_nonneg, hg, Nat.zero_add]
                  refine QFn.use _ mi1 (by simp -dsimp -implicitDefEqProofs only [go_sem, seval]) ?_
                  simp -dsimp -implicitDefEqProofs only [go_sem, seval, e4, c1, Int.toNat_natCast, Int.natCast_nonneg, hg, Nat.zero_add]
                  refine AtFn.inl 400 [] mixed Try.func44 (by kernel_rfl) rfl (by rw [Try.results44]; rfl) (Nat.le_of_ble_eq_true rfl) ?_; rw [Try.ntmps44]
                  simp -dsimp -implicitDefEqProofs only [go_sem, seval, p1, p3, p4, hg, gs, List.set_set]
                  refine AtCode.draw 11 [([], []), ([0], []), ([0, 1], []), ([], []), ([], []), ([4], []), ([], []), ([6], []), ([6, 7], []), ([6, 7, 8], []), ([4, 5, 6, 7, 8, 9], []), ([0, 1, 2, 3, 4, 5, 6, 7, 8, 9, 10], [])] (by kernel_rfl) ?_
                  simp -dsimp -implicitDefEqProofs only [go_sem, seval, c1, Int.toNat_natCast, Int.natCast_nonneg, hg, Nat.zero_add, gs]
                  refine QFn.use _ mi2 (by simp -dsimp -implicitDefEqProofs only [go_sem, seval]) ?_
                  simp -dsimp -implicitDefEqProofs only [go_sem, seval, c1, Int.toNat_natCast, Int.natCast_nonneg, hg, Nat.zero_add, gs]
                  refine AtFn.inl 400 [] mixed Try.func44 (by kernel_rfl) rfl (by rw [Try.results44]; rfl) (Nat.le_of_ble_eq_true rfl) ?_; rw [Try.ntmps44]
                  simp -dsimp -implicitDefEqProofs only [go_sem, seval, gs, List.set_set]
                  refine ⟨⟨k + 1, by omega⟩, by show cur.length - (k + 1) < cur.length - k; omega, Le.tl (Ls := [[]]) [] (by simp -dsimp -implicitDefEqProofs only [go_sem, seval, e3]) ?_ (by simp) (by simp [sg]) ⟨by simp -dsimp -implicitDefEqProofs only [go_sem, seval], trivial⟩⟩
                  simp -dsimp -implicitDefEqProofs only [go_sem, seval, hs]
                  exact renL_cl2 (fin _ (by simp [s2, likeW, p1, p3, p5])) ((clKnsL _).2 trivial)
                · have p5 : ¬ (z.x - z.c.x = 0 ∧ z.y - z.c.y = 0) := by simpa using p4
                  simp -dsimp -implicitDefEqProofs only [go_sem, seval, e4, e4, c1, Int.toNat_natCast, Int.natCast_nonneg, hg, Nat.zero_add]
                  refine AtCode.drawB 10 [([], []), ([0], []), ([0, 1], []), ([0, 1, 2], []), ([], [9]), ([4], [9]), ([4, 5], [9]), ([4, 5, 6], [9]), ([], []), ([], []), ([0, 1, 2, 3, 8, 9], []), ([0, 1, 2, 3, 4, 5, 6, 7, 8, 9, 10], [])] [false, true] (by kernel_rfl) ?_
                  simp -dsimp -implicitDefEqProofs only [go_sem, seval, e4, c1, Int.toNat_natCast, Int.natCast_nonneg, hg, Nat.zero_add]
                  refine ⟨by kernel_rfl, ?_⟩
                  refine AtCode.draw 11 [([], []), ([0], []), ([0, 1], []), ([], []), ([], []), ([4], []), ([4, 5], []), ([4, 5, 6], []), ([], []), ([8], []), ([4, 5, 6, 7, 8, 9], []), ([0, 1, 2, 3, 4, 5, 6, 7, 8, 9, 10], [])] (by kernel_rfl) ?_
                  simp -dsimp -implicitDefEqProofs only [go_sem, seval, e4, c1, Int.toNat_natCast, Int.natCast_nonneg, hg, Nat.zero_add]
                  refine QFn.use _ mi1 (by simp -dsimp -implicitDefEqProofs only [go_sem, seval]) ?_
                  simp -dsimp -implicitDefEqProofs only [go_sem, seval, e4, c1, Int.toNat_natCast, Int.natCast_nonneg, hg, Nat.zero_add]
                  refine AtFn.inl 400 [] mixed Try.func44 (by kernel_rfl) rfl (by rw [Try.results44]; rfl) (Nat.le_of_ble_eq_true rfl) ?_; rw [Try.ntmps44]
                  simp -dsimp -implicitDefEqProofs only [go_sem, seval, p1, p3, p4, hg, gs, List.set_set]
                  refine AtFn.pure0 a1 ?_
                  simp -dsimp -implicitDefEqProofs only [go_sem, seval, gs, List.set_set]
                  refine AtCode.draw 11 [([], []), ([0], []), ([0, 1], []), ([], []), ([], []), ([4], []), ([], []), ([6], []), ([6, 7], []), ([6, 7, 8], []), ([4, 5, 6, 7, 8, 9], []), ([0, 1, 2, 3, 4, 5, 6, 7, 8, 9, 10], [])] (by kernel_rfl) ?_
                  simp -dsimp -implicitDefEqProofs only [go_sem, seval, c1, Int.toNat_natCast, Int.natCast_nonneg, hg, Nat.zero_add, gs]
                  refine QFn.use _ mi2 (by simp -dsimp -implicitDefEqProofs only [go_sem, seval]) ?_
                  simp -dsimp -implicitDefEqProofs only [go_sem, seval, c1, Int.toNat_natCast, Int.natCast_nonneg, hg, Nat.zero_add, gs]
                  refine AtFn.inl 400 [] mixed Try.func44 (by kernel_rfl) rfl (by rw [Try.results44]; rfl) (Nat.le_of_ble_eq_true rfl) ?_; rw [Try.ntmps44]
                  simp -dsimp -implicitDefEqProofs only [go_sem, seval, gs, List.set_set]
                  refine ⟨⟨k + 1, by omega⟩, by show cur.length - (k + 1) < cur.length - k; omega, Le.tl (Ls := [[]]) [] (by simp -dsimp -implicitDefEqProofs only [go_sem, seval, e3]) ?_ (by simp) (by simp [sg]) ⟨by simp -dsimp -implicitDefEqProofs only [go_sem, seval], trivial⟩⟩
                  simp -dsimp -implicitDefEqProofs only [go_sem, seval, hs]
                  exact renL_cl2 (fin _ (by simp [s2, likeW, p1, p3, p5])) ((clKnsL _).2 trivial)
              · skip
                simp -dsimp -implicitDefEqProofs only [go_sem, seval, e4, e4, c1, Int.toNat_natCast, Int.natCast_nonneg, hg, Nat.zero_add]
                refine AtCode.drawB 10 [([], []), ([0], []), ([0, 1], []), ([0, 1, 2], []), ([], [9]), ([4], [9]), ([4, 5], [9]), ([4, 5, 6], [9]), ([], []), ([], []), ([0, 1, 2, 3, 8, 9], []), ([0, 1, 2, 3, 4, 5, 6, 7, 8, 9, 10], [])] [false, true] (by kernel_rfl) ?_
                simp -dsimp -implicitDefEqProofs only [go_sem, seval, e4, c1, Int.toNat_natCast, Int.natCast_nonneg, hg, Nat.zero_add]
                refine ⟨by kernel_rfl, ?_⟩
                refine AtCode.draw 11 [([], []), ([0], []), ([0, 1], []), ([], []), ([], []), ([4], []), ([4, 5], []), ([4, 5, 6], []), ([], []), ([8], []), ([4, 5, 6, 7, 8, 9], []), ([0, 1, 2, 3, 4, 5, 6, 7, 8, 9, 10], [])] (by kernel_rfl) ?_
                simp -dsimp -implicitDefEqProofs only [go_sem, seval, e4, c1, Int.toNat_natCast, Int.natCast_nonneg, hg, Nat.zero_add]
                refine QFn.use _ mi1 (by simp -dsimp -implicitDefEqProofs only [go_sem, seval]) ?_
                simp -dsimp -implicitDefEqProofs only [go_sem, seval, e4, c1, Int.toNat_natCast, Int.natCast_nonneg, hg, Nat.zero_add]
                refine AtFn.inl 400 [] mixed Try.func44 (by kernel_rfl) rfl (by rw [Try.results44]; rfl) (Nat.le_of_ble_eq_true rfl) ?_; rw [Try.ntmps44]
                simp -dsimp -implicitDefEqProofs only [go_sem, seval, p1, p2, p3, hg, gs, List.set_set]
                refine AtCode.drawB 8 [([], []), ([], [0]), ([], []), ([2], []), ([], [0]), ([4], [0]), ([0, 2, 3], []), ([0, 2, 3, 6], []), ([0, 2, 3, 6, 7], []), ([0, 1, 2, 3, 4, 5, 6, 7, 8], []), ([0, 1, 2, 3, 4, 5, 6, 7, 8, 9], []), ([0, 1, 2, 3, 4, 5, 6, 7, 8, 9, 10], [])] [false, true, true, true] (by kernel_rfl) ?_
                simp -dsimp -implicitDefEqProofs only [go_sem, seval, p1, p2, p3, hg, gs, List.set_set]
                refine ⟨by kernel_rfl, ?_⟩
                refine AtCode.draw 11 [([], []), ([0], []), ([0, 1], []), ([], []), ([], []), ([4], []), ([], []), ([6], []), ([6, 7], []), ([6, 7, 8], []), ([4, 5, 6, 7, 8, 9], []), ([0, 1, 2, 3, 4, 5, 6, 7, 8, 9, 10], [])] (by kernel_rfl) ?_
                simp -dsimp -implicitDefEqProofs only [go_sem, seval, c1, Int.toNat_natCast, Int.natCast_nonneg, hg, Nat.zero_add, gs]
                refine QFn.use _ mi2 (by simp -dsimp -implicitDefEqProofs only [go_sem, seval]) ?_
                simp -dsimp -implicitDefEqProofs only [go_sem, seval, c1, Int.toNat_natCast, Int.natCast_nonneg, hg, Nat.zero_add, gs]
                refine AtFn.inl 400 [] mixed Try.func44 (by kernel_rfl) rfl (by rw [Try.results44]; rfl) (Nat.le_of_ble_eq_true rfl) ?_; rw [Try.ntmps44]
                simp -dsimp -implicitDefEqProofs only [go_sem, seval, p2, gs, List.set_set]
                refine ⟨⟨k + 1, by omega⟩, by show cur.length - (k + 1) < cur.length - k; omega, Le.tl (Ls := [[]]) [] (by simp -dsimp -implicitDefEqProofs only [go_sem, seval, e3]) ?_ (by simp) (by simp [sg]) ⟨by simp -dsimp -implicitDefEqProofs only [go_sem, seval], trivial⟩⟩
                simp -dsimp -implicitDefEqProofs only [go_sem, seval, hs]
                exact renL_cl2 (fin _ (by simp [s2, likeW, p1, p2, p3])) ((clKnsL _).2 trivial)
          · by_cases p2 : z.c.op = 0
            · by_cases p3 : z.l.op = 3
              · by_cases p4 : [z.l.x - z.x, z.l.y - z.y] = [0, 0]
                · have p5 : z.l.x - z.x = 0 ∧ z.l.y - z.y = 0 := by simpa using p4
                  simp -dsimp -implicitDefEqProofs only [go_sem, seval, e4, e4, c1, Int.toNat_natCast, Int.natCast_nonneg, hg, Nat.zero_add]
                  refine AtCode.drawB 10 [([], []), ([0], []), ([0, 1], []), ([0, 1, 2], []), ([], [9]), ([4], [9]), ([4, 5], [9]), ([4, 5, 6], [9]), ([], []), ([], []), ([0, 1, 2, 3, 8, 9], []), ([0, 1, 2, 3, 4, 5, 6, 7, 8, 9, 10], [])] [false, true] (by kernel_rfl) ?_
                  simp -dsimp -implicitDefEqProofs only [go_sem, seval, e4, c1, Int.toNat_natCast, Int.natCast_nonneg, hg, Nat.zero_add]
                  refine ⟨by kernel_rfl, ?_⟩
                  refine AtCode.draw 11 [([], []), ([0], []), ([0, 1], []), ([], []), ([], []), ([4], []), ([4, 5], []), ([4, 5, 6], []), ([], []), ([8], []), ([4, 5, 6, 7, 8, 9], []), ([0, 1, 2, 3, 4, 5, 6, 7, 8, 9, 10], [])] (by kernel_rfl) ?_
                  simp -dsimp -implicitDefEqProofs only [go_sem, seval, e4, c1, Int.toNat_natCast, Int.natCast_nonneg, hg, Nat.zero_add]
                  refine QFn.use _ mi1 (by simp -dsimp -implicitDefEqProofs only [go_sem, seval]) ?_
                  simp -dsimp -implicitDefEqProofs only [go_sem, seval, e4, c1, Int.toNat_natCast, Int.natCast_nonneg, hg, Nat.zero_add]
                  refine AtFn.inl 400 [] mixed Try.func44 (by kernel_rfl) rfl (by rw [Try.results44]; rfl) (Nat.le_of_ble_eq_true rfl) ?_; rw [Try.ntmps44]
                  simp -dsimp -implicitDefEqProofs only [go_sem, seval, p3, hg, gs, List.set_set]
                  refine AtCode.draw 11 [([], []), ([0], []), ([0, 1], []), ([], []), ([], []), ([4], []), ([], []), ([6], []), ([6, 7], []), ([6, 7, 8], []), ([4, 5, 6, 7, 8, 9], []), ([0, 1, 2, 3, 4, 5, 6, 7, 8, 9, 10], [])] (by kernel_rfl) ?_
                  simp -dsimp -implicitDefEqProofs only [go_sem, seval, c1, Int.toNat_natCast, Int.natCast_nonneg, hg, Nat.zero_add, gs]
                  refine QFn.use _ mi2 (by simp -dsimp -implicitDefEqProofs only [go_sem, seval]) ?_
                  simp -dsimp -implicitDefEqProofs only [go_sem, seval, c1, Int.toNat_natCast, Int.natCast_nonneg, hg, Nat.zero_add, gs]
                  refine AtFn.inl 400 [] mixed Try.func44 (by kernel_rfl) rfl (by rw [Try.results44]; rfl) (Nat.le_of_ble_eq_true rfl) ?_; rw [Try.ntmps44]
                  simp -dsimp -implicitDefEqProofs only [go_sem, seval, p2, p3, p4, hg, gs, List.set_set]
                  refine ⟨⟨k + 1, by omega⟩, by show cur.length - (k + 1) < cur.length - k; omega, Le.tl (Ls := [[]]) [] (by simp -dsimp -implicitDefEqProofs only [go_sem, seval, e3]) ?_ (by simp) (by simp [sg]) ⟨by simp -dsimp -implicitDefEqProofs only [go_sem, seval], trivial⟩⟩
                  simp -dsimp -implicitDefEqProofs only [go_sem, seval, hs]
                  exact renL_cl2 (fin _ (by simp [s2, likeW, p2, p3, p5])) ((clKnsL _).2 trivial)
                · have p5 : ¬ (z.l.x - z.x = 0 ∧ z.l.y - z.y = 0) := by simpa using p4
                  simp -dsimp -implicitDefEqProofs only [go_sem, seval, e4, e4, c1, Int.toNat_natCast, Int.natCast_nonneg, hg, Nat.zero_add]
                  refine AtCode.drawB 10 [([], []), ([0], []), ([0, 1], []), ([0, 1, 2], []), ([], [9]), ([4], [9]), ([4, 5], [9]), ([4, 5, 6], [9]), ([], []), ([], []), ([0, 1, 2, 3, 8, 9], []), ([0, 1, 2, 3, 4, 5, 6, 7, 8, 9, 10], [])] [false, true] (by kernel_rfl) ?_
                  simp -dsimp -implicitDefEqProofs only [go_sem, seval, e4, c1, Int.toNat_natCast, Int.natCast_nonneg, hg, Nat.zero_add]
                  refine ⟨by kernel_rfl, ?_⟩
                  refine AtCode.draw 11 [([], []), ([0], []), ([0, 1], []), ([], []), ([], []), ([4], []), ([4, 5], []), ([4, 5, 6], []), ([], []), ([8], []), ([4, 5, 6, 7, 8, 9], []), ([0, 1, 2, 3, 4, 5, 6, 7, 8, 9, 10], [])] (by kernel_rfl) ?_
                  simp -dsimp -implicitDefEqProofs only [go_sem, seval, e4, c1, Int.toNat_natCast, Int.natCast_nonneg, hg, Nat.zero_add]
                  refine QFn.use _ mi1 (by simp -dsimp -implicitDefEqProofs only [go_sem, seval]) ?_
                  simp -dsimp -implicitDefEqProofs only [go_sem, seval, e4, c1, Int.toNat_natCast, Int.natCast_nonneg, hg, Nat.zero_add]
                  refine AtFn.inl 400 [] mixed Try.func44 (by kernel_rfl) rfl (by rw [Try.results44]; rfl) (Nat.le_of_ble_eq_true rfl) ?_; rw [Try.ntmps44]
                  simp -dsimp -implicitDefEqProofs only [go_sem, seval, p3, hg, gs, List.set_set]
                  refine AtCode.draw 11 [([], []), ([0], []), ([0, 1], []), ([], []), ([], []), ([4], []), ([], []), ([6], []), ([6, 7], []), ([6, 7, 8], []), ([4, 5, 6, 7, 8, 9], []), ([0, 1, 2, 3, 4, 5, 6, 7, 8, 9, 10], [])] (by kernel_rfl) ?_
                  simp -dsimp -implicitDefEqProofs only [go_sem, seval, c1, Int.toNat_natCast, Int.natCast_nonneg, hg, Nat.zero_add, gs]
                  refine QFn.use _ mi2 (by simp -dsimp -implicitDefEqProofs only [go_sem, seval]) ?_
                  simp -dsimp -implicitDefEqProofs only [go_sem, seval, c1, Int.toNat_natCast, Int.natCast_nonneg, hg, Nat.zero_add, gs]
                  refine AtFn.inl 400 [] mixed Try.func44 (by kernel_rfl) rfl (by rw [Try.results44]; rfl) (Nat.le_of_ble_eq_true rfl) ?_; rw [Try.ntmps44]
                  simp -dsimp -implicitDefEqProofs only [go_sem, seval, p2, p3, p4, hg, gs, List.set_set]
                  refine AtFn.pure0 a2 ?_
                  simp -dsimp -implicitDefEqProofs only [go_sem, seval, gs, List.set_set]
                  refine ⟨⟨k + 1, by omega⟩, by show cur.length - (k + 1) < cur.length - k; omega, Le.tl (Ls := [[]]) [] (by simp -dsimp -implicitDefEqProofs only [go_sem, seval, e3]) ?_ (by simp) (by simp [sg]) ⟨by simp -dsimp -implicitDefEqProofs only [go_sem, seval], trivial⟩⟩
                  simp -dsimp -implicitDefEqProofs only [go_sem, seval, hs]
                  exact renL_cl2 (fin _ (by simp [s2, likeW, p2, p3, p5])) ((clKnsL _).2 trivial)
              · skip
                simp -dsimp -implicitDefEqProofs only [go_sem, seval, e4, e4, c1, Int.toNat_natCast, Int.natCast_nonneg, hg, Nat.zero_add]
                refine AtCode.drawB 10 [([], []), ([0], []), ([0, 1], []), ([0, 1, 2], []), ([], [9]), ([4], [9]), ([4, 5], [9]), ([4, 5, 6], [9]), ([], []), ([], []), ([0, 1, 2, 3, 8, 9], []), ([0, 1, 2, 3, 4, 5, 6, 7, 8, 9, 10], [])] [false, true] (by kernel_rfl) ?_
                simp -dsimp -implicitDefEqProofs only [go_sem, seval, e4, c1, Int.toNat_natCast, Int.natCast_nonneg, hg, Nat.zero_add]
                refine ⟨by kernel_rfl, ?_⟩
                refine AtCode.draw 11 [([], []), ([0], []), ([0, 1], []), ([], []), ([], []), ([4], []), ([4, 5], []), ([4, 5, 6], []), ([], []), ([8], []), ([4, 5, 6, 7, 8, 9], []), ([0, 1, 2, 3, 4, 5, 6, 7, 8, 9, 10], [])] (by kernel_rfl) ?_
                simp -dsimp -implicitDefEqProofs only [go_sem, seval, e4, c1, Int.toNat_natCast, Int.natCast_nonneg, hg, Nat.zero_add]
                refine QFn.use _ mi1 (by simp -dsimp -implicitDefEqProofs only [go_sem, seval]) ?_
                simp -dsimp -implicitDefEqProofs only [go_sem, seval, e4, c1, Int.toNat_natCast, Int.natCast_nonneg, hg, Nat.zero_add]
                refine AtFn.inl 400 [] mixed Try.func44 (by kernel_rfl) rfl (by rw [Try.results44]; rfl) (Nat.le_of_ble_eq_true rfl) ?_; rw [Try.ntmps44]
                simp -dsimp -implicitDefEqProofs only [go_sem, seval, p1, hg, gs, List.set_set]
                refine AtCode.draw 11 [([], []), ([0], []), ([0, 1], []), ([], []), ([], []), ([4], []), ([], []), ([6], []), ([6, 7], []), ([6, 7, 8], []), ([4, 5, 6, 7, 8, 9], []), ([0, 1, 2, 3, 4, 5, 6, 7, 8, 9, 10], [])] (by kernel_rfl) ?_
                simp -dsimp -implicitDefEqProofs only [go_sem, seval, c1, Int.toNat_natCast, Int.natCast_nonneg, hg, Nat.zero_add, gs]
                refine QFn.use _ mi2 (by simp -dsimp -implicitDefEqProofs only [go_sem, seval]) ?_
                simp -dsimp -implicitDefEqProofs only [go_sem, seval, c1, Int.toNat_natCast, Int.natCast_nonneg, hg, Nat.zero_add, gs]
                refine AtFn.inl 400 [] mixed Try.func44 (by kernel_rfl) rfl (by rw [Try.results44]; rfl) (Nat.le_of_ble_eq_true rfl) ?_; rw [Try.ntmps44]
                simp -dsimp -implicitDefEqProofs only [go_sem, seval, p1, p2, p3, hg, gs, List.set_set]
                refine AtCode.drawB 8 [([], []), ([], [0]), ([], []), ([2], []), ([], [0]), ([4], [0]), ([0, 2, 3], []), ([0, 2, 3, 6], []), ([0, 2, 3, 6, 7], []), ([0, 1, 2, 3, 4, 5, 6, 7, 8], []), ([0, 1, 2, 3, 4, 5, 6, 7, 8, 9], []), ([0, 1, 2, 3, 4, 5, 6, 7, 8, 9, 10], [])] [false, true, true, true] (by kernel_rfl) ?_
                simp -dsimp -implicitDefEqProofs only [go_sem, seval, p1, p2, p3, hg, gs, List.set_set]
                refine ⟨by kernel_rfl, ?_⟩
                refine ⟨⟨k + 1, by omega⟩, by show cur.length - (k + 1) < cur.length - k; omega, Le.tl (Ls := [[]]) [] (by simp -dsimp -implicitDefEqProofs only [go_sem, seval, e3]) ?_ (by simp) (by simp [sg]) ⟨by simp -dsimp -implicitDefEqProofs only [go_sem, seval], trivial⟩⟩
                simp -dsimp -implicitDefEqProofs only [go_sem, seval, hs]
                exact renL_cl2 (fin _ (by simp [s2, likeW, p1, p2, p3])) ((clKnsL _).2 trivial)
            · skip
              simp -dsimp -implicitDefEqProofs only [go_sem, seval, e4, e4, c1, Int.toNat_natCast, Int.natCast_nonneg, hg, Nat.zero_add]
              refine AtCode.drawB 10 [([], []), ([0], []), ([0, 1], []), ([0, 1, 2], []), ([], [9]), ([4], [9]), ([4, 5], [9]), ([4, 5, 6], [9]), ([], []), ([], []), ([0, 1, 2, 3, 8, 9], []), ([0, 1, 2, 3, 4, 5, 6, 7, 8, 9, 10], [])] [false, true] (by kernel_rfl) ?_
              simp -dsimp -implicitDefEqProofs only [go_sem, seval, e4, c1, Int.toNat_natCast, Int.natCast_nonneg, hg, Nat.zero_add]
              refine ⟨by kernel_rfl, ?_⟩
              refine AtCode.draw 11 [([], []), ([0], []), ([0, 1], []), ([], []), ([], []), ([4], []), ([4, 5], []), ([4, 5, 6], []), ([], []), ([8], []), ([4, 5, 6, 7, 8, 9], []), ([0, 1, 2, 3, 4, 5, 6, 7, 8, 9, 10], [])] (by kernel_rfl) ?_
              simp -dsimp -implicitDefEqProofs only [go_sem, seval, e4, c1, Int.toNat_natCast, Int.natCast_nonneg, hg, Nat.zero_add]
              refine QFn.use _ mi1 (by simp -dsimp -implicitDefEqProofs only [go_sem, seval]) ?_
              simp -dsimp -implicitDefEqProofs only [go_sem, seval, e4, c1, Int.toNat_natCast, Int.natCast_nonneg, hg, Nat.zero_add]
              refine AtFn.inl 400 [] mixed Try.func44 (by kernel_rfl) rfl (by rw [Try.results44]; rfl) (Nat.le_of_ble_eq_true rfl) ?_; rw [Try.ntmps44]
              simp -dsimp -implicitDefEqProofs only [go_sem, seval, p1, hg]
              refine AtCode.draw 11 [([], []), ([0], []), ([0, 1], []), ([], []), ([], []), ([4], []), ([], []), ([6], []), ([6, 7], []), ([6, 7, 8], []), ([4, 5, 6, 7, 8, 9], []), ([0, 1, 2, 3, 4, 5, 6, 7, 8, 9, 10], [])] (by kernel_rfl) ?_
              simp -dsimp -implicitDefEqProofs only [go_sem, seval, c1, Int.toNat_natCast, Int.natCast_nonneg, hg, Nat.zero_add, gs]
              refine QFn.use _ mi2 (by simp -dsimp -implicitDefEqProofs only [go_sem, seval]) ?_
              simp -dsimp -implicitDefEqProofs only [go_sem, seval, c1, Int.toNat_natCast, Int.natCast_nonneg, hg, Nat.zero_add, gs]
              refine AtFn.inl 400 [] mixed Try.func44 (by kernel_rfl) rfl (by rw [Try.results44]; rfl) (Nat.le_of_ble_eq_true rfl) ?_; rw [Try.ntmps44]
              simp -dsimp -implicitDefEqProofs only [go_sem, seval, p2, hg]
              refine ⟨⟨k + 1, by omega⟩, by show cur.length - (k + 1) < cur.length - k; omega, Le.tl (Ls := [[]]) [] (by simp -dsimp -implicitDefEqProofs only [go_sem, seval, e3]) ?_ (by simp) (by simp [sg]) ⟨by simp -dsimp -implicitDefEqProofs only [go_sem, seval], trivial⟩⟩
              simp -dsimp -implicitDefEqProofs only [go_sem, seval, hs]
              exact renL_cl2 (g2 p1 p2) ((clKnsL _).2 trivial)
        | false =>
          have k0 : ¬ (k : Int) = 0 := fun q => hsk ⟨rfl, .inl (by omega)⟩
          have k1 : ¬ (k : Int) = ((cur.length - 1 : Nat) : Int) := fun q => hsk ⟨rfl, .inr (by omega)⟩
          by_cases p1 : z.l.op = 0
          · by_cases p2 : z.c.op = 0
            · skip
              simp -dsimp -implicitDefEqProofs only [go_sem, seval, k0, k1, e4, c1, Int.toNat_natCast, Int.natCast_nonneg, hg, Nat.zero_add]
              refine AtCode.drawB 10 [([], []), ([0], []), ([0, 1], []), ([0, 1, 2], []), ([], [9]), ([4], [9]), ([4, 5], [9]), ([4, 5, 6], [9]), ([], []), ([], []), ([0, 1, 2, 3, 8, 9], []), ([0, 1, 2, 3, 4, 5, 6, 7, 8, 9, 10], [])] [false, true] (by kernel_rfl) ?_
              simp -dsimp -implicitDefEqProofs only [go_sem, seval, e4, c1, Int.toNat_natCast, Int.natCast_nonneg, hg, Nat.zero_add]
              refine ⟨by kernel_rfl, ?_⟩
              refine AtCode.draw 11 [([], []), ([0], []), ([0, 1], []), ([], []), ([], []), ([4], []), ([4, 5], []), ([4, 5, 6], []), ([], []), ([8], []), ([4, 5, 6, 7, 8, 9], []), ([0, 1, 2, 3, 4, 5, 6, 7, 8, 9, 10], [])] (by kernel_rfl) ?_
              simp -dsimp -implicitDefEqProofs only [go_sem, seval, e4, c1, Int.toNat_natCast, Int.natCast_nonneg, hg, Nat.zero_add]
              refine QFn.use _ mi1 (by simp -dsimp -implicitDefEqProofs only [go_sem, seval]) ?_
              simp -dsimp -implicitDefEqProofs only [go_sem, seval, e4, c1, Int.toNat_natCast, Int.natCast_nonneg, hg, Nat.zero_add]
              refine AtFn.inl 400 [] mixed Try.func44 (by kernel_rfl) rfl (by rw [Try.results44]; rfl) (Nat.le_of_ble_eq_true rfl) ?_; rw [Try.ntmps44]
              simp -dsimp -implicitDefEqProofs only [go_sem, seval, p1, p2, hg]
              refine AtCode.draw 11 [([], []), ([0], []), ([0, 1], []), ([], []), ([], []), ([4], []), ([], []), ([6], []), ([6, 7], []), ([6, 7, 8], []), ([4, 5, 6, 7, 8, 9], []), ([0, 1, 2, 3, 4, 5, 6, 7, 8, 9, 10], [])] (by kernel_rfl) ?_
              simp -dsimp -implicitDefEqProofs only [go_sem, seval, c1, Int.toNat_natCast, Int.natCast_nonneg, hg, Nat.zero_add, gs]
              refine QFn.use _ mi2 (by simp -dsimp -implicitDefEqProofs only [go_sem, seval]) ?_
              simp -dsimp -implicitDefEqProofs only [go_sem, seval, c1, Int.toNat_natCast, Int.natCast_nonneg, hg, Nat.zero_add, gs]
              refine AtFn.inl 400 [] mixed Try.func44 (by kernel_rfl) rfl (by rw [Try.results44]; rfl) (Nat.le_of_ble_eq_true rfl) ?_; rw [Try.ntmps44]
              simp -dsimp -implicitDefEqProofs only [go_sem, seval, p1, p2, hg]
              refine ⟨⟨k + 1, by omega⟩, by show cur.length - (k + 1) < cur.length - k; omega, Le.tl (Ls := [[]]) [] (by simp -dsimp -implicitDefEqProofs only [go_sem, seval, e3]) ?_ (by simp) (by simp [sg]) ⟨by simp -dsimp -implicitDefEqProofs only [go_sem, seval], trivial⟩⟩
              simp -dsimp -implicitDefEqProofs only [go_sem, seval, hs]
              exact renL_cl2 (g1 p1 p2) ((clKnsL _).2 trivial)
            · by_cases p3 : z.c.op = 3
              · by_cases p4 : [z.x - z.c.x, z.y - z.c.y] = [0, 0]
                · have p5 : z.x - z.c.x = 0 ∧ z.y - z.c.y = 0 := by simpa using p4
                  simp -dsimp -implicitDefEqProofs only [go_sem, seval, k0, k1, e4, c1, Int.toNat_natCast, Int.natCast_nonneg, hg, Nat.zero_add]
                  refine AtCode.drawB 10 [([], []), ([0], []), ([0, 1], []), ([0, 1, 2], []), ([], [9]), ([4], [9]), ([4, 5], [9]), ([4, 5, 6], [9]), ([], []), ([], []), ([0, 1, 2, 3, 8, 9], []), ([0, 1, 2, 3, 4, 5, 6, 7, 8, 9, 10], [])] [false, true] (by kernel_rfl) ?_
                  simp -dsimp -implicitDefEqProofs only [go_sem, seval, e4, c1, Int.toNat_natCast, Int.natCast_nonneg, hg, Nat.zero_add]
                  refine ⟨by kernel_rfl, ?_⟩
                  refine AtCode.draw 11 [([], []), ([0], []), ([0, 1], []), ([], []), ([], []), ([4], []), ([4, 5], []), ([4, 5, 6], []), ([], []), ([8], []), ([4, 5, 6, 7, 8, 9], []), ([0, 1, 2, 3, 4, 5, 6, 7, 8, 9, 10], [])] (by kernel_rfl) ?_
                  simp -dsimp -implicitDefEqProofs only [go_sem, seval, e4, c1, Int.toNat_natCast, Int.natCast_nonneg, hg, Nat.zero_add]
                  refine QFn.use _ mi1 (by simp -dsimp -implicitDefEqProofs only [go_sem, seval]) ?_
                  simp -dsimp -implicitDefEqProofs only [go_sem, seval, e4, c1, Int.toNat_natCast, Int.natCast_nonneg, hg, Nat.zero_add]
                  refine AtFn.inl 400 [] mixed Try.func44 (by kernel_rfl) rfl (by rw [Try.results44]; rfl) (Nat.le_of_ble_eq_true rfl) ?_; rw [Try.ntmps44]
                  simp -dsimp -implicitDefEqProofs only [go_sem, seval, p1, p3, p4, hg, gs, List.set_set]
                  refine AtCode.draw 11 [([], []), ([0], []), ([0, 1], []), ([], []), ([], []), ([4], []), ([], []), ([6], []), ([6, 7], []), ([6, 7, 8], []), ([4, 5, 6, 7, 8, 9], []), ([0, 1, 2, 3, 4, 5, 6, 7, 8, 9, 10], [])] (by kernel_rfl) ?_
                  simp -dsimp -implicitDefEqProofs only [go_sem, seval, c1, Int.toNat_natCast, Int.natCast_nonneg, hg, Nat.zero_add, gs]
                  refine QFn.use _ mi2 (by simp -dsimp -implicitDefEqProofs only [go_sem, seval]) ?_
                  simp -dsimp -implicitDefEqProofs only [go_sem, seval, c1, Int.toNat_natCast, Int.natCast_nonneg, hg, Nat.zero_add, gs]
                  refine AtFn.inl 400 [] mixed Try.func44 (by kernel_rfl) rfl (by rw [Try.results44]; rfl) (Nat.le_of_ble_eq_true rfl) ?_; rw [Try.ntmps44]
                  simp -dsimp -implicitDefEqProofs only [go_sem, seval, gs, List.set_set]
                  refine ⟨⟨k + 1, by omega⟩, by show cur.length - (k + 1) < cur.length - k; omega, Le.tl (Ls := [[]]) [] (by simp -dsimp -implicitDefEqProofs only [go_sem, seval, e3]) ?_ (by simp) (by simp [sg]) ⟨by simp -dsimp -implicitDefEqProofs only [go_sem, seval], trivial⟩⟩
                  simp -dsimp -implicitDefEqProofs only [go_sem, seval, hs]
                  exact renL_cl2 (fin _ (by simp [s2, likeW, p1, p3, p5])) ((clKnsL _).2 trivial)
                · have p5 : ¬ (z.x - z.c.x = 0 ∧ z.y - z.c.y = 0) := by simpa using p4
                  simp -dsimp -implicitDefEqProofs only [go_sem, seval, k0, k1, e4, c1, Int.toNat_natCast, Int.natCast_nonneg, hg, Nat.zero_add]
                  refine AtCode.drawB 10 [([], []), ([0], []), ([0, 1], []), ([0, 1, 2], []), ([], [9]), ([4], [9]), ([4, 5], [9]), ([4, 5, 6], [9]), ([], []), ([], []), ([0, 1, 2, 3, 8, 9], []), ([0, 1, 2, 3, 4, 5, 6, 7, 8, 9, 10], [])] [false, true] (by kernel_rfl) ?_
                  simp -dsimp -implicitDefEqProofs only [go_sem, seval, e4, c1, Int.toNat_natCast, Int.natCast_nonneg, hg, Nat.zero_add]
                  refine ⟨by kernel_rfl, ?_⟩
                  refine AtCode.draw 11 [([], []), ([0], []), ([0, 1], []), ([], []), ([], []), ([4], []), ([4, 5], []), ([4, 5, 6], []), ([], []), ([8], []), ([4, 5, 6, 7, 8, 9], []), ([0, 1, 2, 3, 4, 5, 6, 7, 8, 9, 10], [])] (by kernel_rfl) ?_
                  simp -dsimp -implicitDefEqProofs only [go_sem, seval, e4, c1, Int.toNat_natCast, Int.natCast_nonneg, hg, Nat.zero_add]
                  refine QFn.use _ mi1 (by simp -dsimp -implicitDefEqProofs only [go_sem, seval]) ?_
                  simp -dsimp -implicitDefEqProofs only [go_sem, seval, e4, c1, Int.toNat_natCast, Int.natCast_nonneg, hg, Nat.zero_add]
                  refine AtFn.inl 400 [] mixed Try.func44 (by kernel_rfl) rfl (by rw [Try.results44]; rfl) (Nat.le_of_ble_eq_true rfl) ?_; rw [Try.ntmps44]
                  simp -dsimp -implicitDefEqProofs only [go_sem, seval, p1, p3, p4, hg, gs, List.set_set]
                  refine AtFn.pure0 a1 ?_
                  simp -dsimp -implicitDefEqProofs only [go_sem, seval, gs, List.set_set]
                  refine AtCode.draw 11 [([], []), ([0], []), ([0, 1], []), ([], []), ([], []), ([4], []), ([], []), ([6], []), ([6, 7], []), ([6, 7, 8], []), ([4, 5, 6, 7, 8, 9], []), ([0, 1, 2, 3, 4, 5, 6, 7, 8, 9, 10], [])] (by kernel_rfl) ?_
                  simp -dsimp -implicitDefEqProofs only [go_sem, seval, c1, Int.toNat_natCast, Int.natCast_nonneg, hg, Nat.zero_add, gs]
                  refine QFn.use _ mi2 (by simp -dsimp -implicitDefEqProofs only [go_sem, seval]) ?_
                  simp -dsimp -implicitDefEqProofs only [go_sem, seval, c1, Int.toNat_natCast, Int.natCast_nonneg, hg, Nat.zero_add, gs]
                  refine AtFn.inl 400 [] mixed Try.func44 (by kernel_rfl) rfl (by rw [Try.results44]; rfl) (Nat.le_of_ble_eq_true rfl) ?_; rw [Try.ntmps44]
                  simp -dsimp -implicitDefEqProofs only [go_sem, seval, gs, List.set_set]
                  refine ⟨⟨k + 1, by omega⟩, by show cur.length - (k + 1) < cur.length - k; omega, Le.tl (Ls := [[]]) [] (by simp -dsimp -implicitDefEqProofs only [go_sem, seval, e3]) ?_ (by simp) (by simp [sg]) ⟨by simp -dsimp -implicitDefEqProofs only [go_sem, seval], trivial⟩⟩
                  simp -dsimp -implicitDefEqProofs only [go_sem, seval, hs]
                  exact renL_cl2 (fin _ (by simp [s2, likeW, p1, p3, p5])) ((clKnsL _).2 trivial)
              · skip
                simp -dsimp -implicitDefEqProofs only [go_sem, seval, k0, k1, e4, c1, Int.toNat_natCast, Int.natCast_nonneg, hg, Nat.zero_add]
                refine AtCode.drawB 10 [([], []), ([0], []), ([0, 1], []), ([0, 1, 2], []), ([], [9]), ([4], [9]), ([4, 5], [9]), ([4, 5, 6], [9]), ([], []), ([], []), ([0, 1, 2, 3, 8, 9], []), ([0, 1, 2, 3, 4, 5, 6, 7, 8, 9, 10], [])] [false, true] (by kernel_rfl) ?_
                simp -dsimp -implicitDefEqProofs only [go_sem, seval, e4, c1, Int.toNat_natCast, Int.natCast_nonneg, hg, Nat.zero_add]
                refine ⟨by kernel_rfl, ?_⟩
                refine AtCode.draw 11 [([], []), ([0], []), ([0, 1], []), ([], []), ([], []), ([4], []), ([4, 5], []), ([4, 5, 6], []), ([], []), ([8], []), ([4, 5, 6, 7, 8, 9], []), ([0, 1, 2, 3, 4, 5, 6, 7, 8, 9, 10], [])] (by kernel_rfl) ?_
                simp -dsimp -implicitDefEqProofs only [go_sem, seval, e4, c1, Int.toNat_natCast, Int.natCast_nonneg, hg, Nat.zero_add]
                refine QFn.use _ mi1 (by simp -dsimp -implicitDefEqProofs only [go_sem, seval]) ?_
                simp -dsimp -implicitDefEqProofs only [go_sem, seval, e4, c1, Int.toNat_natCast, Int.natCast_nonneg, hg, Nat.zero_add]
                refine AtFn.inl 400 [] mixed Try.func44 (by kernel_rfl) rfl (by rw [Try.results44]; rfl) (Nat.le_of_ble_eq_true rfl) ?_; rw [Try.ntmps44]
                simp -dsimp -implicitDefEqProofs only [go_sem, seval, p1, p2, p3, hg, gs, List.set_set]
                refine AtCode.drawB 8 [([], []), ([], [0]), ([], []), ([2], []), ([], [0]), ([4], [0]), ([0, 2, 3], []), ([0, 2, 3, 6], []), ([0, 2, 3, 6, 7], []), ([0, 1, 2, 3, 4, 5, 6, 7, 8], []), ([0, 1, 2, 3, 4, 5, 6, 7, 8, 9], []), ([0, 1, 2, 3, 4, 5, 6, 7, 8, 9, 10], [])] [false, true, true, true] (by kernel_rfl) ?_
                simp -dsimp -implicitDefEqProofs only [go_sem, seval, p1, p2, p3, hg, gs, List.set_set]
                refine ⟨by kernel_rfl, ?_⟩
                refine AtCode.draw 11 [([], []), ([0], []), ([0, 1], []), ([], []), ([], []), ([4], []), ([], []), ([6], []), ([6, 7], []), ([6, 7, 8], []), ([4, 5, 6, 7, 8, 9], []), ([0, 1, 2, 3, 4, 5, 6, 7, 8, 9, 10], [])] (by kernel_rfl) ?_
                simp -dsimp -implicitDefEqProofs only [go_sem, seval, c1, Int.toNat_natCast, Int.natCast_nonneg, hg, Nat.zero_add, gs]
                refine QFn.use _ mi2 (by simp -dsimp -implicitDefEqProofs only [go_sem, seval]) ?_
                simp -dsimp -implicitDefEqProofs only [go_sem, seval, c1, Int.toNat_natCast, Int.natCast_nonneg, hg, Nat.zero_add, gs]
                refine AtFn.inl 400 [] mixed Try.func44 (by kernel_rfl) rfl (by rw [Try.results44]; rfl) (Nat.le_of_ble_eq_true rfl) ?_; rw [Try.ntmps44]
                simp -dsimp -implicitDefEqProofs only [go_sem, seval, p2, gs, List.set_set]
                refine ⟨⟨k + 1, by omega⟩, by show cur.length - (k + 1) < cur.length - k; omega, Le.tl (Ls := [[]]) [] (by simp -dsimp -implicitDefEqProofs only [go_sem, seval, e3]) ?_ (by simp) (by simp [sg]) ⟨by simp -dsimp -implicitDefEqProofs only [go_sem, seval], trivial⟩⟩
                simp -dsimp -implicitDefEqProofs only [go_sem, seval, hs]
                exact renL_cl2 (fin _ (by simp [s2, likeW, p1, p2, p3])) ((clKnsL _).2 trivial)
          · by_cases p2 : z.c.op = 0
            · by_cases p3 : z.l.op = 3
              · by_cases p4 : [z.l.x - z.x, z.l.y - z.y] = [0, 0]
                · have p5 : z.l.x - z.x = 0 ∧ z.l.y - z.y = 0 := by simpa using p4
                  simp -dsimp -implicitDefEqProofs only [go_sem, seval, k0, k1, e4, c1, Int.toNat_natCast, Int.natCast_nonneg, hg, Nat.zero_add]
                  refine AtCode.drawB 10 [([], []), ([0], []), ([0, 1], []), ([0, 1, 2], []), ([], [9]), ([4], [9]), ([4, 5], [9]), ([4, 5, 6], [9]), ([], []), ([], []), ([0, 1, 2, 3, 8, 9], []), ([0, 1, 2, 3, 4, 5, 6, 7, 8, 9, 10], [])] [false, true] (by kernel_rfl) ?_
                  simp -dsimp -implicitDefEqProofs only [go_sem, seval, e4, c1, Int.toNat_natCast, Int.natCast_nonneg, hg, Nat.zero_add]
                  refine ⟨by kernel_rfl, ?_⟩
                  refine AtCode.draw 11 [([], []), ([0], []), ([0, 1], []), ([], []), ([], []), ([4], []), ([4, 5], []), ([4, 5, 6], []), ([], []), ([8], []), ([4, 5, 6, 7, 8, 9], []), ([0, 1, 2, 3, 4, 5, 6, 7, 8, 9, 10], [])] (by kernel_rfl) ?_
                  simp -dsimp -implicitDefEqProofs only [go_sem, seval, e4, c1, Int.toNat_natCast, Int.natCast_nonneg, hg, Nat.zero_add]
                  refine QFn.use _ mi1 (by simp -dsimp -implicitDefEqProofs only [go_sem, seval]) ?_
                  simp -dsimp -implicitDefEqProofs only [go_sem, seval, e4, c1, Int.toNat_natCast, Int.natCast_nonneg, hg, Nat.zero_add]
                  refine AtFn.inl 400 [] mixed Try.func44 (by kernel_rfl) rfl (by rw [Try.results44]; rfl) (Nat.le_of_ble_eq_true rfl) ?_; rw [Try.ntmps44]
                  simp -dsimp -implicitDefEqProofs only [go_sem, seval, p3, hg, gs, List.set_set]
                  refine AtCode.draw 11 [([], []), ([0], []), ([0, 1], []), ([], []), ([], []), ([4], []), ([], []), ([6], []), ([6, 7], []), ([6, 7, 8], []), ([4, 5, 6, 7, 8, 9], []), ([0, 1, 2, 3, 4, 5, 6, 7, 8, 9, 10], [])] (by kernel_rfl) ?_
                  simp -dsimp -implicitDefEqProofs only [go_sem, seval, c1, Int.toNat_natCast, Int.natCast_nonneg, hg, Nat.zero_add, gs]
                  refine QFn.use _ mi2 (by simp -dsimp -implicitDefEqProofs only [go_sem, seval]) ?_
                  simp -dsimp -implicitDefEqProofs only [go_sem, seval, c1, Int.toNat_natCast, Int.natCast_nonneg, hg, Nat.zero_add, gs]
                  refine AtFn.inl 400 [] mixed Try.func44 (by kernel_rfl) rfl (by rw [Try.results44]; rfl) (Nat.le_of_ble_eq_true rfl) ?_; rw [Try.ntmps44]
                  simp -dsimp -implicitDefEqProofs only [go_sem, seval, p2, p3, p4, hg, gs, List.set_set]
                  refine ⟨⟨k + 1, by omega⟩, by show cur.length - (k + 1) < cur.length - k; omega, Le.tl (Ls := [[]]) [] (by simp -dsimp -implicitDefEqProofs only [go_sem, seval, e3]) ?_ (by simp) (by simp [sg]) ⟨by simp -dsimp -implicitDefEqProofs only [go_sem, seval], trivial⟩⟩
                  simp -dsimp -implicitDefEqProofs only [go_sem, seval, hs]
                  exact renL_cl2 (fin _ (by simp [s2, likeW, p2, p3, p5])) ((clKnsL _).2 trivial)
                · have p5 : ¬ (z.l.x - z.x = 0 ∧ z.l.y - z.y = 0) := by simpa using p4
                  simp -dsimp -implicitDefEqProofs only [go_sem, seval, k0, k1, e4, c1, Int.toNat_natCast, Int.natCast_nonneg, hg, Nat.zero_add]
                  refine AtCode.drawB 10 [([], []), ([0], []), ([0, 1], []), ([0, 1, 2], []), ([], [9]), ([4], [9]), ([4, 5], [9]), ([4, 5, 6], [9]), ([], []), ([], []), ([0, 1, 2, 3, 8, 9], []), ([0, 1, 2, 3, 4, 5, 6, 7, 8, 9, 10], [])] [false, true] (by kernel_rfl) ?_
                  simp -dsimp -implicitDefEqProofs only [go_sem, seval, e4, c1, Int.toNat_natCast, Int.natCast_nonneg, hg, Nat.zero_add]
                  refine ⟨by kernel_rfl, ?_⟩
                  refine AtCode.draw 11 [([], []), ([0], []), ([0, 1], []), ([], []), ([], []), ([4], []), ([4, 5], []), ([4, 5, 6], []), ([], []), ([8], []), ([4, 5, 6, 7, 8, 9], []), ([0, 1, 2, 3, 4, 5, 6, 7, 8, 9, 10], [])] (by kernel_rfl) ?_
                  simp -dsimp -implicitDefEqProofs only [go_sem, seval, e4, c1, Int.toNat_natCast, Int.natCast_nonneg, hg, Nat.zero_add]
                  refine QFn.use _ mi1 (by simp -dsimp -implicitDefEqProofs only [go_sem, seval]) ?_
                  simp -dsimp -implicitDefEqProofs only [go_sem, seval, e4, c1, Int.toNat_natCast, Int.natCast_nonneg, hg, Nat.zero_add]
                  refine AtFn.inl 400 [] mixed Try.func44 (by kernel_rfl) rfl (by rw [Try.results44]; rfl) (Nat.le_of_ble_eq_true rfl) ?_; rw [Try.ntmps44]
                  simp -dsimp -implicitDefEqProofs only [go_sem, seval, p3, hg, gs, List.set_set]
                  refine AtCode.draw 11 [([], []), ([0], []), ([0, 1], []), ([], []), ([], []), ([4], []), ([], []), ([6], []), ([6, 7], []), ([6, 7, 8], []), ([4, 5, 6, 7, 8, 9], []), ([0, 1, 2, 3, 4, 5, 6, 7, 8, 9, 10], [])] (by kernel_rfl) ?_
                  simp -dsimp -implicitDefEqProofs only [go_sem, seval, c1, Int.toNat_natCast, Int.natCast_nonneg, hg, Nat.zero_add, gs]
                  refine QFn.use _ mi2 (by simp -dsimp -implicitDefEqProofs only [go_sem, seval]) ?_
                  simp -dsimp -implicitDefEqProofs only [go_sem, seval, c1, Int.toNat_natCast, Int.natCast_nonneg, hg, Nat.zero_add, gs]
                  refine AtFn.inl 400 [] mixed Try.func44 (by kernel_rfl) rfl (by rw [Try.results44]; rfl) (Nat.le_of_ble_eq_true rfl) ?_; rw [Try.ntmps44]
                  simp -dsimp -implicitDefEqProofs only [go_sem, seval, p2, p3, p4, hg, gs, List.set_set]
                  refine AtFn.pure0 a2 ?_
                  simp -dsimp -implicitDefEqProofs only [go_sem, seval, gs, List.set_set]
                  refine ⟨⟨k + 1, by omega⟩, by show cur.length - (k + 1) < cur.length - k; omega, Le.tl (Ls := [[]]) [] (by simp -dsimp -implicitDefEqProofs only [go_sem, seval, e3]) ?_ (by simp) (by simp [sg]) ⟨by simp -dsimp -implicitDefEqProofs only [go_sem, seval], trivial⟩⟩
                  simp -dsimp -implicitDefEqProofs only [go_sem, seval, hs]
                  exact renL_cl2 (fin _ (by simp [s2, likeW, p2, p3, p5])) ((clKnsL _).2 trivial)
              · skip
                simp -dsimp -implicitDefEqProofs only [go_sem, seval, k0, k1, e4, c1, Int.toNat_natCast, Int.natCast_nonneg, hg, Nat.zero_add]
                refine AtCode.drawB 10 [([], []), ([0], []), ([0, 1], []), ([0, 1, 2], []), ([], [9]), ([4], [9]), ([4, 5], [9]), ([4, 5, 6], [9]), ([], []), ([], []), ([0, 1, 2, 3, 8, 9], []), ([0, 1, 2, 3, 4, 5, 6, 7, 8, 9, 10], [])] [false, true] (by kernel_rfl) ?_
                simp -dsimp -implicitDefEqProofs only [go_sem, seval, e4, c1, Int.toNat_natCast, Int.natCast_nonneg, hg, Nat.zero_add]
                refine ⟨by kernel_rfl, ?_⟩
                refine AtCode.draw 11 [([], []), ([0], []), ([0, 1], []), ([], []), ([], []), ([4], []), ([4, 5], []), ([4, 5, 6], []), ([], []), ([8], []), ([4, 5, 6, 7, 8, 9], []), ([0, 1, 2, 3, 4, 5, 6, 7, 8, 9, 10], [])] (by kernel_rfl) ?_
                simp -dsimp -implicitDefEqProofs only [go_sem, seval, e4, c1, Int.toNat_natCast, Int.natCast_nonneg, hg, Nat.zero_add]
                refine QFn.use _ mi1 (by simp -dsimp -implicitDefEqProofs only [go_sem, seval]) ?_
                simp -dsimp -implicitDefEqProofs only [go_sem, seval, e4, c1, Int.toNat_natCast, Int.natCast_nonneg, hg, Nat.zero_add]
                refine AtFn.inl 400 [] mixed Try.func44 (by kernel_rfl) rfl (by rw [Try.results44]; rfl) (Nat.le_of_ble_eq_true rfl) ?_; rw [Try.ntmps44]
                simp -dsimp -implicitDefEqProofs only [go_sem, seval, p1, hg, gs, List.set_set]
                refine AtCode.draw 11 [([], []), ([0], []), ([0, 1], []), ([], []), ([], []), ([4], []), ([], []), ([6], []), ([6, 7], []), ([6, 7, 8], []), ([4, 5, 6, 7, 8, 9], []), ([0, 1, 2, 3, 4, 5, 6, 7, 8, 9, 10], [])] (by kernel_rfl) ?_
                simp -dsimp -implicitDefEqProofs only [go_sem, seval, c1, Int.toNat_natCast, Int.natCast_nonneg, hg, Nat.zero_add, gs]
                refine QFn.use _ mi2 (by simp -dsimp -implicitDefEqProofs only [go_sem, seval]) ?_
                simp -dsimp -implicitDefEqProofs only [go_sem, seval, c1, Int.toNat_natCast, Int.natCast_nonneg, hg, Nat.zero_add, gs]
                refine AtFn.inl 400 [] mixed Try.func44 (by kernel_rfl) rfl (by rw [Try.results44]; rfl) (Nat.le_of_ble_eq_true rfl) ?_; rw [Try.ntmps44]
                simp -dsimp -implicitDefEqProofs only [go_sem, seval, p1, p2, p3, hg, gs, List.set_set]
                refine AtCode.drawB 8 [([], []), ([], [0]), ([], []), ([2], []), ([], [0]), ([4], [0]), ([0, 2, 3], []), ([0, 2, 3, 6], []), ([0, 2, 3, 6, 7], []), ([0, 1, 2, 3, 4, 5, 6, 7, 8], []), ([0, 1, 2, 3, 4, 5, 6, 7, 8, 9], []), ([0, 1, 2, 3, 4, 5, 6, 7, 8, 9, 10], [])] [false, true, true, true] (by kernel_rfl) ?_
                simp -dsimp -implicitDefEqProofs only [go_sem, seval, p1, p2, p3, hg, gs, List.set_set]
                refine ⟨by kernel_rfl, ?_⟩
                refine ⟨⟨k + 1, by omega⟩, by show cur.length - (k + 1) < cur.length - k; omega, Le.tl (Ls := [[]]) [] (by simp -dsimp -implicitDefEqProofs only [go_sem, seval, e3]) ?_ (by simp) (by simp [sg]) ⟨by simp -dsimp -implicitDefEqProofs only [go_sem, seval], trivial⟩⟩
                simp -dsimp -implicitDefEqProofs only [go_sem, seval, hs]
                exact renL_cl2 (fin _ (by simp [s2, likeW, p1, p2, p3])) ((clKnsL _).2 trivial)
            · skip
              simp -dsimp -implicitDefEqProofs only [go_sem, seval, k0, k1, e4, c1, Int.toNat_natCast, Int.natCast_nonneg, hg, Nat.zero_add]
              refine AtCode.drawB 10 [([], []), ([0], []), ([0, 1], []), ([0, 1, 2], []), ([], [9]), ([4], [9]), ([4, 5], [9]), ([4, 5, 6], [9]), ([], []), ([], []), ([0, 1, 2, 3, 8, 9], []), ([0, 1, 2, 3, 4, 5, 6, 7, 8, 9, 10], [])] [false, true] (by kernel_rfl) ?_
              simp -dsimp -implicitDefEqProofs only [go_sem, seval, e4, c1, Int.toNat_natCast, Int.natCast_nonneg, hg, Nat.zero_add]
              refine ⟨by kernel_rfl, ?_⟩
              refine AtCode.draw 11 [([], []), ([0], []), ([0, 1], []), ([], []), ([], []), ([4], []), ([4, 5], []), ([4, 5, 6], []), ([], []), ([8], []), ([4, 5, 6, 7, 8, 9], []), ([0, 1, 2, 3, 4, 5, 6, 7, 8, 9, 10], [])] (by kernel_rfl) ?_
              simp -dsimp -implicitDefEqProofs only [go_sem, seval, e4, c1, Int.toNat_natCast, Int.natCast_nonneg, hg, Nat.zero_add]
              refine QFn.use _ mi1 (by simp -dsimp -implicitDefEqProofs only [go_sem, seval]) ?_
              simp -dsimp -implicitDefEqProofs only [go_sem, seval, e4, c1, Int.toNat_natCast, Int.natCast_nonneg, hg, Nat.zero_add]
              refine AtFn.inl 400 [] mixed Try.func44 (by kernel_rfl) rfl (by rw [Try.results44]; rfl) (Nat.le_of_ble_eq_true rfl) ?_; rw [Try.ntmps44]
              simp -dsimp -implicitDefEqProofs only [go_sem, seval, p1, hg]
              refine AtCode.draw 11 [([], []), ([0], []), ([0, 1], []), ([], []), ([], []), ([4], []), ([], []), ([6], []), ([6, 7], []), ([6, 7, 8], []), ([4, 5, 6, 7, 8, 9], []), ([0, 1, 2, 3, 4, 5, 6, 7, 8, 9, 10], [])] (by kernel_rfl) ?_
              simp -dsimp -implicitDefEqProofs only [go_sem, seval, c1, Int.toNat_natCast, Int.natCast_nonneg, hg, Nat.zero_add, gs]
              refine QFn.use _ mi2 (by simp -dsimp -implicitDefEqProofs only [go_sem, seval]) ?_
              simp -dsimp -implicitDefEqProofs only [go_sem, seval, c1, Int.toNat_natCast, Int.natCast_nonneg, hg, Nat.zero_add, gs]
              refine AtFn.inl 400 [] mixed Try.func44 (by kernel_rfl) rfl (by rw [Try.results44]; rfl) (Nat.le_of_ble_eq_true rfl) ?_; rw [Try.ntmps44]
              simp -dsimp -implicitDefEqProofs only [go_sem, seval, p2, hg]
              refine ⟨⟨k + 1, by omega⟩, by show cur.length - (k + 1) < cur.length - k; omega, Le.tl (Ls := [[]]) [] (by simp -dsimp -implicitDefEqProofs only [go_sem, seval, e3]) ?_ (by simp) (by simp [sg]) ⟨by simp -dsimp -implicitDefEqProofs only [go_sem, seval], trivial⟩⟩
              simp -dsimp -implicitDefEqProofs only [go_sem, seval, hs]
              exact renL_cl2 (g2 p1 p2) ((clKnsL _).2 trivial)
    · have hkl : k = l.length := by omega
      subst hkl
      obtain ⟨cur, hcur⟩ : ∃ cur, cur = s2N c l.length l1 := ⟨_, rfl⟩
      have hcl : cur.length = l.length := by rw [hcur, s2N_len, hll]
      rw [← hcur]
      cases c with
      | true =>
        simp -dsimp -implicitDefEqProofs only [go_sem, seval]
        have hs3 : s3 true cur = cur := rfl
        rw [hs3, hcl]
        exact FinM.mk0 [] (by simp -dsimp -implicitDefEqProofs only [go_sem, seval]) (by simp -dsimp -implicitDefEqProofs only [go_sem, seval]; exact renL_cl rfl ((clKnsL _).2 trivial)) (by simp) (by simp [sg])
      | false =>
        have e4 : wr (((cur.length : Nat) : Int) - 1) = ((cur.length - 1 : Nat) : Int) := by rw [wr_in] <;> omega
        have c0 : (0 : Int) < ((cur.length : Nat) : Int) := by omega
        have c1 : ((cur.length - 1 : Nat) : Int) < ((cur.length : Nat) : Int) := by omega
        rw [← hcl]
        simp -dsimp -implicitDefEqProofs only [go_sem, seval]
        refine AtCode.draw 12 [([], []), ([0], []), ([0, 1], []), ([], []), ([], []), ([4], []), ([4, 5], []), ([3, 4, 5, 6], []), ([3, 4, 5, 6, 7], []), ([0, 1, 2, 3, 4, 5, 6, 7, 8], []), ([0, 1, 2, 3, 4, 5, 6, 7, 8, 9], []), ([], [])] (by kernel_rfl) ?_
        simp -dsimp -implicitDefEqProofs only [go_sem, seval, e4, c0, c1, Int.toNat_natCast, Int.natCast_nonneg, Nat.zero_add]
        have hA : (s3A cur).length = cur.length := by unfold s3A; simp
        have hB : (s3B (s3A cur)).length = cur.length := by unfold s3B; simp [hA]
        have gA := getKn (l := cur) (i := 0) (by omega)
        have gB := getKn (l := s3A cur) (i := cur.length - 1) (by omega)
        obtain ⟨a, ha⟩ : ∃ a, a = cur.getD 0 zK := ⟨_, rfl⟩
        obtain ⟨b, hb⟩ : ∃ b, b = (s3A cur).getD (cur.length - 1) zK := ⟨_, rfl⟩
        rw [← ha] at gA
        rw [← hb] at gB
        have eA : s3A cur = cur.set 0 ⟨a.x, a.y, a.c, opnW a.l⟩ := by rw [ha]; rfl
        have eB : s3B (s3A cur) = (s3A cur).set (cur.length - 1) ⟨b.x, b.y, opnW b.c, b.l⟩ := by rw [hb]; unfold s3B; rw [hA]
        have sA : ∀ L, L = KnC ⟨a.x, a.y, a.c, opnW a.l⟩ → (cur.map KnC).set 0 L = (s3A cur).map KnC := fun L h => by rw [h, setKn, eA]
        have sB : ∀ L, L = KnC ⟨b.x, b.y, opnW b.c, b.l⟩ → ((s3A cur).map KnC).set (cur.length - 1) L = (s3B (s3A cur)).map KnC := fun L h => by rw [h, setKn, eB]
        have gsA : ∀ x : List AV, ((cur.map KnC).set 0 x)[0]? = some x := fun x => List.getElem?_set_self (by rw [List.length_map]; omega)
        have gsB : ∀ x : List AV, (((s3A cur).map KnC).set (cur.length - 1) x)[cur.length - 1]? = some x := fun x => List.getElem?_set_self (by rw [List.length_map]; omega)
        refine AtLoop.st (endI cur) 2 ⟨by decide, by simp -dsimp -implicitDefEqProofs only [go_sem, seval], by simp -dsimp -implicitDefEqProofs only [go_sem, seval], by simp -dsimp -implicitDefEqProofs only [go_sem, seval], by simp -dsimp -implicitDefEqProofs only [go_sem, seval], rfl⟩ fun m hh tt kk hI => ?_
        obtain ⟨b1, b2, b3, b4, b5, rfl⟩ := hI
        match m, b1 with
        | 2, _ =>
          have b5' : tt 134 = I 0 := b5
          have b6 : s3I cur (2 - 2) = cur := rfl
          by_cases ho : a.l.op = 0
          · simp -dsimp -implicitDefEqProofs only [go_sem, seval, b2, b3, b4, b5', b6, gA, ho, gsA, List.set_set]
            refine st_mk (I := endI cur) 1 (by decide) ⟨by decide, by simp -dsimp -implicitDefEqProofs only [go_sem, seval, b2], by simp -dsimp -implicitDefEqProofs only [go_sem, seval, b3], by simp -dsimp -implicitDefEqProofs only [go_sem, seval, b4], by simp -dsimp -implicitDefEqProofs only [go_sem, seval]; rfl, ?_⟩
            rw [sA _ (by simp [opnW, ho])]; rfl
          · simp -dsimp -implicitDefEqProofs only [go_sem, seval, b2, b3, b4, b5', b6, gA, ho]
            refine st_mk (I := endI cur) 1 (by decide) ⟨by decide, by simp -dsimp -implicitDefEqProofs only [go_sem, seval, b2], by simp -dsimp -implicitDefEqProofs only [go_sem, seval, b3], by simp -dsimp -implicitDefEqProofs only [go_sem, seval, b4], by simp -dsimp -implicitDefEqProofs only [go_sem, seval]; rfl, ?_⟩
            have : cur = s3A cur := by
              rw [eA]
              have : (⟨a.x, a.y, a.c, opnW a.l⟩ : Kn) = a := by unfold opnW; rw [if_neg ho]
              rw [this, ha, setGetD]
            show _ = [(0, (⟨12, (s3A cur).map KnC⟩ : Blk))]
            rw [← this]
        | 1, _ =>
          have b5' : tt 134 = I 1 := b5
          have b6 : s3I cur (2 - 1) = s3A cur := rfl
          by_cases ho : b.c.op = 0
          · simp -dsimp -implicitDefEqProofs only [go_sem, seval, b2, b3, b4, b5', b6, gB, ho, gsB, List.set_set]
            refine st_mk (I := endI cur) 0 (by decide) ⟨by decide, by simp -dsimp -implicitDefEqProofs only [go_sem, seval, b2], by simp -dsimp -implicitDefEqProofs only [go_sem, seval, b3], by simp -dsimp -implicitDefEqProofs only [go_sem, seval, b4], by simp -dsimp -implicitDefEqProofs only [go_sem, seval]; rfl, ?_⟩
            rw [sB _ (by simp [opnW, ho])]; rfl
          · simp -dsimp -implicitDefEqProofs only [go_sem, seval, b2, b3, b4, b5', b6, gB, ho]
            refine st_mk (I := endI cur) 0 (by decide) ⟨by decide, by simp -dsimp -implicitDefEqProofs only [go_sem, seval, b2], by simp -dsimp -implicitDefEqProofs only [go_sem, seval, b3], by simp -dsimp -implicitDefEqProofs only [go_sem, seval, b4], by simp -dsimp -implicitDefEqProofs only [go_sem, seval]; rfl, ?_⟩
            have : s3A cur = s3B (s3A cur) := by
              rw [eB]
              have : (⟨b.x, b.y, opnW b.c, b.l⟩ : Kn) = b := by unfold opnW; rw [if_neg ho]
              rw [this, hb, setGetD]
            show _ = [(0, (⟨12, (s3B (s3A cur)).map KnC⟩ : Blk))]
            rw [← this]
        | 0, _ =>
          have b5' : tt 134 = I 2 := b5
          have b6 : s3I cur (2 - 0) = s3B (s3A cur) := rfl
          simp -dsimp -implicitDefEqProofs only [go_sem, seval, b2, b3, b4, b5', b6]
          have hs3 : s3 false cur = s3B (s3A cur) := rfl
          rw [hs3, hB]
          exact FinM.mk0 [] (by simp -dsimp -implicitDefEqProofs only [go_sem, seval]) (by simp -dsimp -implicitDefEqProofs only [go_sem, seval]; exact .inl (renL_cl rfl ((clKnsL _).2 trivial))) (by simp) (by simp [sg])
end

section
set_option maxRecDepth 20000
attribute [local go_sem] eqk27' clKnsL
structure Ar where
  fx : Int
  fy : Int
  tx : Int
  ty : Int
  a : Sd
  b : Sd
  far : Int
  dir : Int
  u : Int
  v : Int
  st : Bool
abbrev ArC (r : Ar) : List AV := [I r.fx, I r.fy, I r.tx, I r.ty, I r.a.op, I r.a.t, I r.a.v, I r.a.x, I r.a.y, I r.b.op, I r.b.t, I r.b.v, I r.b.x, I r.b.y, I r.far, I r.dir, I r.u, I r.v, Bo r.st]
abbrev ArA (r : Ar) : AV := .g (ArC r)
def zA : Ar := ⟨0, 0, 0, 0, zS, zS, 0, 0, 0, 0, false⟩
theorem clAr (k : Ar) : ∀ s ∈ ArC k, Cl s := by
  intro s hs
  simp at hs
  rcases hs with rfl | rfl | rfl | rfl | rfl | rfl | rfl | rfl | rfl | rfl | rfl | rfl | rfl | rfl | rfl | rfl | rfl | rfl | rfl <;> exact .v _
theorem clArsL (l : List Ar) : (∀ c ∈ l.map ArC, ∀ s ∈ c, Cl s) ↔ True := by
  simp only [iff_true]
  intro c hc s hs
  obtain ⟨k, _, rfl⟩ := List.mem_map.1 hc
  exact clAr k s hs
theorem oneAr (l : List Ar) : ∀ c ∈ l.map ArC, ∀ x ∈ c, oneA x = true := by
  intro c hc x hx
  obtain ⟨k, _, rfl⟩ := List.mem_map.1 hc
  simp at hx
  rcases hx with rfl | rfl | rfl | rfl | rfl | rfl | rfl | rfl | rfl | rfl | rfl | rfl | rfl | rfl | rfl | rfl | rfl | rfl | rfl <;> rfl
attribute [local go_sem] clArsL
theorem getA {l : List Ar} {i : Nat} (h : i < l.length) : l[i]? = some (l.getD i zA) := by simp [List.getD, h]
theorem getAr {l : List Ar} {i : Nat} (h : i < l.length) : (l.map ArC)[i]? = some (ArC (l.getD i zA)) := by rw [List.getElem?_map, getA h]; rfl
def arcW (l : List Kn) (k : Nat) : Ar :=
  if (l.getD k zK).l.op = 3 then ⟨(l.getD k zK).x, (l.getD k zK).y, (l.getD ((k + 1) % l.length) zK).x, (l.getD ((k + 1) % l.length) zK).y, (l.getD k zK).l, (l.getD ((k + 1) % l.length) zK).c, 0, 0, 0, 0, false⟩
  else ⟨(l.getD k zK).x, (l.getD k zK).y, (l.getD ((k + 1) % l.length) zK).x, (l.getD ((k + 1) % l.length) zK).y, (l.getD k zK).l, (l.getD ((k + 1) % l.length) zK).c,
    hypW ((l.getD ((k + 1) % l.length) zK).x - (l.getD k zK).x) ((l.getD ((k + 1) % l.length) zK).y - (l.getD k zK).y), argW ((l.getD ((k + 1) % l.length) zK).x - (l.getD k zK).x) ((l.getD ((k + 1) % l.length) zK).y - (l.getD k zK).y), 0, 0, false⟩
def arcsW (l : List Kn) (c : Bool) : List Ar := (List.range (segs l c)).map (arcW l)
def arcP (l : List Kn) (n i : Nat) : List Ar := (List.range n).map fun j => if j < i then arcW l j else zA
theorem arcP_0 (l : List Kn) (n : Nat) : arcP l n 0 = List.replicate n zA := by
  unfold arcP
  refine List.ext_getElem? fun j => ?_
  rw [List.getElem?_map, List.getElem?_replicate]
  split
  · rename_i h; rw [List.getElem?_range h]; rfl
  · rename_i h; rw [List.getElem?_eq_none (by simp; omega)]; rfl
theorem arcP_n (l : List Kn) (n : Nat) : arcP l n n = (List.range n).map (arcW l) := by
  unfold arcP
  refine List.map_congr_left fun j hj => ?_
  rw [if_pos (List.mem_range.1 hj)]
theorem arcP_len (l : List Kn) (n i : Nat) : (arcP l n i).length = n := by simp [arcP]
theorem arcP_set (l : List Kn) (n i : Nat) (L : List AV) (hL : L = ArC (arcW l i)) : ((arcP l n i).map ArC).set i L = (arcP l n (i + 1)).map ArC := by
  subst hL
  rw [← List.map_set]
  congr 1
  unfold arcP
  refine List.ext_getElem? fun j => ?_
  rw [List.getElem?_set]
  by_cases hj : j < n
  · simp only [List.length_map, List.length_range, List.getElem?_map, List.getElem?_range hj, Option.map_some]
    by_cases hij : i = j
    · subst hij
      rw [if_pos rfl, if_pos hj, if_pos (by omega)]
    · rw [if_neg hij]
      by_cases h2 : j < i
      · rw [if_pos h2, if_pos (by omega)]
      · rw [if_neg h2, if_neg (by omega)]
  · simp only [List.length_map, List.length_range]
    rw [List.getElem?_eq_none (by simp; omega), List.getElem?_eq_none (by simp; omega)]
    split
    · rw [if_neg (by omega)]
    · rfl
set_option maxHeartbeats 4000000 in
theorem arcs25 (l : List Kn) (c : Bool) (hl1 : 1 ≤ l.length) (hl2 : l.length ≤ 201) (hb : bKs l) : NFun Try.prog 25 [Kns l, Bo c] 19 ((arcsW l c).map ArC) := by
  have hsl := segs_le (l := l) (c := c)
  refine MFun.toN ?_ ((clArsL _).2 trivial)
  refine MFun.intro 400 [4] mixed Try.func25 (by kernel_rfl) rfl (by rw [Try.results25]; rfl) (Nat.le_of_ble_eq_true rfl) ?_; rw [Try.ntmps25]
  simp -dsimp -implicitDefEqProofs only [go_sem, seval]
  refine AtFn.keep (many31 l c hl1 (by omega)) ?_
  obtain ⟨n, hn⟩ : ∃ n, n = segs l c := ⟨_, rfl⟩
  have hn2 : ((n : Nat) : Int) ≤ 274877906944 := by omega
  have hw : arcsW l c = arcP l n n := by rw [arcP_n, hn]; rfl
  rw [hw, ← hn]
  simp -dsimp -implicitDefEqProofs only [go_sem, seval, Int.natCast_nonneg, Int.le_refl, hn2, Int.toNat_natCast, List.length_replicate]
  refine ⟨{i : Nat // i ≤ n}, fun i => ⟨74, tl [(0, Kns l), (1, Bo c), (5, .sl 0 0 n), (16, I (n : Nat)), (17, I i.1)], [(0, ⟨19, (arcP l n i.1).map ArC⟩)], 1, ⟨[tl []], some (.mp none)⟩⟩, fun i => n - i.1,
    ⟨⟨0, by omega⟩, Le.tl (Ls := [[]]) [] (by simp -dsimp -implicitDefEqProofs only [go_sem, seval]) ?_ (by simp) (by simp [sg]) ⟨by simp -dsimp -implicitDefEqProofs only [go_sem, seval], trivial⟩⟩, fun i => ?_⟩
  · simp -dsimp -implicitDefEqProofs only [go_sem, seval, arcP_0]
    exact renL_cl2 (by rw [List.map_replicate]; rfl) ((clArsL _).2 trivial)
  obtain ⟨i, hi⟩ := i
  simp -dsimp -implicitDefEqProofs only [go_sem, seval, List.length_map]
  refine ⟨fun h => ?_, fun hout => ?_⟩
  · have hlt : i < n := by omega
    have hil : i < l.length := by omega
    have hjl : (i + 1) % l.length < l.length := Nat.mod_lt _ (by omega)
    have e3 : wr ((i : Int) + 1) = ((i + 1 : Nat) : Int) := by rw [wr_in] <;> omega
    have e4 : (((i + 1 : Nat) : Int)).tmod (l.length : Int) = (((i + 1) % l.length : Nat) : Int) := tmodN _ _
    have e5 : wr (((i + 1) % l.length : Nat) : Int) = (((i + 1) % l.length : Nat) : Int) := wr_in (by omega) (by omega)
    have hgi := getKn (l := l) (i := i) (by omega)
    have hgj := getKn hjl
    have haw : arcW l i = arcW l i := rfl
    conv at haw => rhs; unfold arcW
    have hset := fun L h => arcP_set l n i L h
    obtain ⟨z, hz⟩ : ∃ z, z = l.getD i zK := ⟨_, rfl⟩
    obtain ⟨j, hj⟩ : ∃ j, j = (i + 1) % l.length := ⟨_, rfl⟩
    obtain ⟨w, hw⟩ : ∃ w, w = l.getD j zK := ⟨_, rfl⟩
    have hbz : bK z := by rw [hz]; exact hb i hil
    have hbw : bK w := by rw [hw]; exact hb j (by omega)
    rw [← hj] at hjl hgj e4 e5 haw
    rw [← hz] at hgi haw
    rw [← hw] at hgj haw
    have hbz1 := inP_bd hbz.1
    have hbw1 := inP_bd hbw.1
    simp only at hbz1 hbw1
    have m1 : wr (w.x - z.x) = w.x - z.x := wr_in (by omega) (by omega)
    have m2 : wr (w.y - z.y) = w.y - z.y := wr_in (by omega) (by omega)
    have mi := minus40 (w.x, w.y) (z.x, z.y)
    simp only [m1, m2] at mi
    have hy := hypot41 (w.x - z.x) (w.y - z.y) (by omega) (by omega)
    have ag := arg42 (w.x - z.x) (w.y - z.y) (by omega) (by omega)
    have hn0 : ¬ ((l.length : Nat) : Int) = 0 := by omega
    have c1 : (i : Int) < ((l.length : Nat) : Int) := by omega
    have c2 : (j : Int) < ((l.length : Nat) : Int) := by omega
    have c3 : (i : Int) < ((n : Nat) : Int) := by omega
    have gsl : ∀ x, (arcP l n i)[i]? = some x → True := fun _ _ => trivial
    have gp := getAr (l := arcP l n i) (i := i) (by rw [arcP_len]; exact hlt)
    simp -dsimp -implicitDefEqProofs only [go_sem, seval, e3, e4, e5, hn0, c1, c2, c3, Int.toNat_natCast, Int.natCast_nonneg, hgi, hgj, Nat.zero_add]
    refine AtCode.drawB 14 [([], []), ([], []), ([0, 1], []), ([0, 1, 2], []), ([], [13]), ([], [13]), ([5], [13]), ([], [13]), ([7], [13]), ([5, 6, 7, 8], [13]), ([4, 5, 6, 7, 8, 9], [13]), ([4, 5, 6, 7, 8, 9, 10], [13]), ([], []), ([], []), ([0, 1, 2, 3, 12, 13], []), ([0, 1, 2, 3, 4, 5, 6, 7, 8, 9, 10, 11, 12, 13, 14], [])] [false, true] (by kernel_rfl) ?_
    simp -dsimp -implicitDefEqProofs only [go_sem, seval, e3, e4, e5, hn0, c1, c2, c3, Int.toNat_natCast, Int.natCast_nonneg, hgi, hgj, Nat.zero_add, List.length_map]
    refine ⟨by kernel_rfl, ?_⟩
    by_cases ho : z.l.op = 3
    · rw [if_pos ho] at haw
      simp -dsimp -implicitDefEqProofs only [go_sem, seval, ho, c3, Int.toNat_natCast, Int.natCast_nonneg, Nat.zero_add, gp, true_implies]
      refine ⟨⟨i + 1, by omega⟩, by show n - (i + 1) < n - i; omega, Le.tl (Ls := [[]]) [] (by simp -dsimp -implicitDefEqProofs only [go_sem, seval, e3]) ?_ (by simp) (by simp [sg]) ⟨by simp -dsimp -implicitDefEqProofs only [go_sem, seval], trivial⟩⟩
      simp -dsimp -implicitDefEqProofs only [go_sem, seval]
      refine renL_cl2 (hset _ ?_) ((clArsL _).2 trivial)
      rw [haw]
      try (simp only [ArC, ho]; done)
    · rw [if_neg ho] at haw
      simp -dsimp -implicitDefEqProofs only [go_sem, seval, ho, c3, Int.toNat_natCast, Int.natCast_nonneg, Nat.zero_add, gp, true_implies]
      refine AtFn.pure0 mi ?_
      simp -dsimp -implicitDefEqProofs only [go_sem, seval]
      refine AtFn.pure0 hy ?_
      simp -dsimp -implicitDefEqProofs only [go_sem, seval]
      refine AtFn.pure0 ag ?_
      simp -dsimp -implicitDefEqProofs only [go_sem, seval, c3, Int.toNat_natCast, Int.natCast_nonneg, Nat.zero_add, gp]
      refine ⟨⟨i + 1, by omega⟩, by show n - (i + 1) < n - i; omega, Le.tl (Ls := [[]]) [] (by simp -dsimp -implicitDefEqProofs only [go_sem, seval, e3]) ?_ (by simp) (by simp [sg]) ⟨by simp -dsimp -implicitDefEqProofs only [go_sem, seval], trivial⟩⟩
      simp -dsimp -implicitDefEqProofs only [go_sem, seval]
      refine renL_cl2 (hset _ ?_) ((clArsL _).2 trivial)
      rw [haw]
      try (simp only [ArC, ho]; done)
  · have : i = n := by omega
    subst this
    rw [arcP_len]
    exact FinM.mk0 [] (by simp -dsimp -implicitDefEqProofs only [go_sem, seval]) (by simp -dsimp -implicitDefEqProofs only [go_sem, seval]; exact renL_cl rfl ((clArsL _).2 trivial)) (by simp) (by simp [sg])
end

section
set_option maxRecDepth 20000
attribute [local go_sem] eqk27' clKnsL clArsL
theorem third49 (n t : Int) (hn : -536870910 ≤ n ∧ n ≤ 536870910) (ht : 49152 ≤ t) (ht2 : t ≤ 268435455) : PFun Try.prog 49 [I n, I t] (I (rnd (n * 65536) (3 * t))) := by
  have w1 : wr (n * 65536) = n * 65536 := wr_in (by omega) (by omega)
  have w2 : wr (3 * t) = 3 * t := wr_in (by omega) (by omega)
  have hr := round50p (n * 65536) (3 * t) (by omega) (by omega) (by omega)
  refine PFun.intro 400 mixed Try.func49 (by kernel_rfl) rfl (by first | exact .v _ | (simp [Cl_v, Cl_t, Cl_g, Cl_fn, Cl_rp, Cl_ro]; done) | (simp [Cl_v, Cl_t, Cl_g, Cl_fn, Cl_rp, Cl_ro, or_imp, forall_and]; done) | (split <;> simp [Cl_v, Cl_t, Cl_g, Cl_fn, Cl_rp, Cl_ro])) (Nat.le_of_ble_eq_true rfl) ?_; rw [Try.ntmps49, Try.results49]
  simp -dsimp -implicitDefEqProofs only [go_sem, seval, w1, w2]
  refine AtFn.pure0 hr ?_
  simp -dsimp -implicitDefEqProofs only [go_sem, seval]
def stB (r : Ar) : Int × Int := (r.fx + rnd ((r.tx - r.fx) * 65536) (3 * r.a.t), r.fy + rnd ((r.ty - r.fy) * 65536) (3 * r.a.t))
def stC (r : Ar) : Int × Int := (r.tx - rnd ((r.tx - r.fx) * 65536) (3 * r.b.t), r.ty - rnd ((r.ty - r.fy) * 65536) (3 * r.b.t))
def ctlA (r : Ar) : AV :=
  if r.a.op = 3 then .t [Pt (r.a.x, r.a.y), Pt (r.b.x, r.b.y), I 0]
  else if r.st then ptR (stB r) (stC r) else alongR (r.fx, r.fy) (r.tx, r.ty) r.u r.v r.a.t r.b.t
theorem ptR_t (b c : Int × Int) : ∃ p q e, ptR b c = .t [Pt p, Pt q, I e] := by
  unfold ptR
  split <;> exact ⟨_, _, _, rfl⟩
structure ArOk (r : Ar) : Prop where
  f : inP (r.fx, r.fy) = true
  t : inP (r.tx, r.ty) = true
  a : r.a.op = 3 ∨ (49152 ≤ r.a.t ∧ r.a.t ≤ 268435455 ∧ 49152 ≤ r.b.t ∧ r.b.t ≤ 268435455)
  u : -9223372036854775808 ≤ r.u ∧ r.u ≤ 9223372036854775807
  v : -9223372036854775808 ≤ r.v ∧ r.v ≤ 9223372036854775807
set_option maxHeartbeats 2000000 in
theorem controls28 (r : Ar) (h : ArOk r) : PFun Try.prog 28 [ArA r] (ctlA r) := by
  obtain ⟨hf, ht, ha, hu, hv⟩ := h
  by_cases ho : r.a.op = 3
  · have e : ctlA r = .t [Pt (r.a.x, r.a.y), Pt (r.b.x, r.b.y), I 0] := by unfold ctlA; rw [if_pos ho]
    rw [e]
    refine PFun.intro 400 mixed Try.func28 (by kernel_rfl) rfl (by first | exact .v _ | (simp [Cl_v, Cl_t, Cl_g, Cl_fn, Cl_rp, Cl_ro]; done) | (simp [Cl_v, Cl_t, Cl_g, Cl_fn, Cl_rp, Cl_ro, or_imp, forall_and]; done) | (split <;> simp [Cl_v, Cl_t, Cl_g, Cl_fn, Cl_rp, Cl_ro])) (Nat.le_of_ble_eq_true rfl) ?_; rw [Try.ntmps28, Try.results28]
    simp -dsimp -implicitDefEqProofs only [go_sem, seval, ho]
    refine AtCode.drawB 6 [([], []), ([0], []), ([0, 1], []), ([], [1]), ([3], [1]), ([3, 4], [1]), ([0, 1, 2], []), ([0, 1, 2, 3, 4, 5, 6], []), ([0, 1, 2, 3, 4, 5, 6, 7], [])] [false, true, true] (by kernel_rfl) ?_
    simp -dsimp -implicitDefEqProofs only [go_sem, seval]
    kernel_rfl
  have ha : 49152 ≤ r.a.t ∧ r.a.t ≤ 268435455 ∧ 49152 ≤ r.b.t ∧ r.b.t ≤ 268435455 := ha.resolve_left ho
  cases hs : r.st
  · have e : ctlA r = alongR (r.fx, r.fy) (r.tx, r.ty) r.u r.v r.a.t r.b.t := by unfold ctlA; rw [if_neg ho, hs]; rfl
    have al := along38 (r.fx, r.fy) (r.tx, r.ty) r.u r.v r.a.t r.b.t hu hv ⟨hf, ht, ha.1, ha.2.1, ha.2.2.1, ha.2.2.2⟩
    obtain ⟨p, q, e1, he⟩ := along_t (r.fx, r.fy) (r.tx, r.ty) r.u r.v r.a.t r.b.t
    rw [e, he]
    rw [he] at al
    refine PFun.intro 400 mixed Try.func28 (by kernel_rfl) rfl (by first | exact .v _ | (simp [Cl_v, Cl_t, Cl_g, Cl_fn, Cl_rp, Cl_ro]; done) | (simp [Cl_v, Cl_t, Cl_g, Cl_fn, Cl_rp, Cl_ro, or_imp, forall_and]; done) | (split <;> simp [Cl_v, Cl_t, Cl_g, Cl_fn, Cl_rp, Cl_ro])) (Nat.le_of_ble_eq_true rfl) ?_; rw [Try.ntmps28, Try.results28]
    simp -dsimp -implicitDefEqProofs only [go_sem, seval, ho, hs, true_implies]
    refine AtFn.pure0 al ?_
    simp -dsimp -implicitDefEqProofs only [go_sem, seval]
  · have e : ctlA r = ptR (stB r) (stC r) := by unfold ctlA; rw [if_neg ho, hs]; rfl
    have hf1 := inP_bd hf
    have ht1 := inP_bd ht
    simp only at hf1 ht1
    have mi := minus40 (r.tx, r.ty) (r.fx, r.fy)
    have w1 : wr (r.tx - r.fx) = r.tx - r.fx := wr_in (by omega) (by omega)
    have w2 : wr (r.ty - r.fy) = r.ty - r.fy := wr_in (by omega) (by omega)
    simp only [w1, w2] at mi
    obtain ⟨p, q, e1, he⟩ := ptR_t (stB r) (stC r)
    have pl := placed51 (stB r) (stC r)
    rw [e, he]
    rw [he] at pl
    unfold stB stC at pl
    have t1 := third49 (r.tx - r.fx) r.a.t (by omega) ha.1 ha.2.1
    have t2 := third49 (r.ty - r.fy) r.a.t (by omega) ha.1 ha.2.1
    have t3 := third49 (r.tx - r.fx) r.b.t (by omega) ha.2.2.1 ha.2.2.2
    have t4 := third49 (r.ty - r.fy) r.b.t (by omega) ha.2.2.1 ha.2.2.2
    have b1 := rnd_bd (p := (r.tx - r.fx) * 65536) (q := 3 * r.a.t) (by omega)
    have b2 := rnd_bd (p := (r.ty - r.fy) * 65536) (q := 3 * r.a.t) (by omega)
    have b3 := rnd_bd (p := (r.tx - r.fx) * 65536) (q := 3 * r.b.t) (by omega)
    have b4 := rnd_bd (p := (r.ty - r.fy) * 65536) (q := 3 * r.b.t) (by omega)
    have y1 : wr (r.fx + rnd ((r.tx - r.fx) * 65536) (3 * r.a.t)) = r.fx + rnd ((r.tx - r.fx) * 65536) (3 * r.a.t) := wr_in (by omega) (by omega)
    have y2 : wr (r.fy + rnd ((r.ty - r.fy) * 65536) (3 * r.a.t)) = r.fy + rnd ((r.ty - r.fy) * 65536) (3 * r.a.t) := wr_in (by omega) (by omega)
    have y3 : wr (r.tx - rnd ((r.tx - r.fx) * 65536) (3 * r.b.t)) = r.tx - rnd ((r.tx - r.fx) * 65536) (3 * r.b.t) := wr_in (by omega) (by omega)
    have y4 : wr (r.ty - rnd ((r.ty - r.fy) * 65536) (3 * r.b.t)) = r.ty - rnd ((r.ty - r.fy) * 65536) (3 * r.b.t) := wr_in (by omega) (by omega)
    refine PFun.intro 400 mixed Try.func28 (by kernel_rfl) rfl (by first | exact .v _ | (simp [Cl_v, Cl_t, Cl_g, Cl_fn, Cl_rp, Cl_ro]; done) | (simp [Cl_v, Cl_t, Cl_g, Cl_fn, Cl_rp, Cl_ro, or_imp, forall_and]; done) | (split <;> simp [Cl_v, Cl_t, Cl_g, Cl_fn, Cl_rp, Cl_ro])) (Nat.le_of_ble_eq_true rfl) ?_; rw [Try.ntmps28, Try.results28]
    simp -dsimp -implicitDefEqProofs only [go_sem, seval, ho, hs, true_implies]
    refine AtFn.pure0 mi ?_
    simp -dsimp -implicitDefEqProofs only [go_sem, seval]
    refine AtCode.draw 23 [([], []), ([0], []), ([0, 1], []), ([], []), ([], []), ([4], []), ([], []), ([6], []), ([6, 7], []), ([3, 4, 5, 6, 7, 8], []), ([0, 1, 2, 3, 4, 5, 6, 7, 8, 9], []), ([], []), ([11], []), ([11, 12], []), ([], []), ([], []), ([15], []), ([], []), ([17], []), ([17, 18], []), ([3, 4, 5, 6, 7, 8, 9, 14, 15, 16, 17, 18, 19], []), ([3, 4, 5, 6, 7, 8, 9, 11, 12, 13, 14, 15, 16, 17, 18, 19, 20], []), ([0, 1, 2, 3, 4, 5, 6, 7, 8, 9, 10, 11, 12, 13, 14, 15, 16, 17, 18, 19, 20, 21], []), ([0, 1, 2, 3, 4, 5, 6, 7, 8, 9, 10, 11, 12, 13, 14, 15, 16, 17, 18, 19, 20, 21, 22], [])] (by kernel_rfl) ?_
    simp -dsimp -implicitDefEqProofs only [go_sem, seval]
    refine QFn.use _ t1 (by simp -dsimp -implicitDefEqProofs only [go_sem, seval]) ?_
    simp -dsimp -implicitDefEqProofs only [go_sem, seval, y1]
    refine QFn.use _ t2 (by simp -dsimp -implicitDefEqProofs only [go_sem, seval]) ?_
    simp -dsimp -implicitDefEqProofs only [go_sem, seval, y2]
    refine AtCode.draw 23 [([], []), ([0], []), ([0, 1], []), ([], []), ([], []), ([4], []), ([], []), ([6], []), ([6, 7], []), ([3, 4, 5, 6, 7, 8], []), ([0, 1, 2, 3, 4, 5, 6, 7, 8, 9], []), ([], []), ([11], []), ([11, 12], []), ([], []), ([], []), ([15], []), ([], []), ([17], []), ([17, 18], []), ([3, 4, 5, 6, 7, 8, 9, 14, 15, 16, 17, 18, 19], []), ([3, 4, 5, 6, 7, 8, 9, 11, 12, 13, 14, 15, 16, 17, 18, 19, 20], []), ([0, 1, 2, 3, 4, 5, 6, 7, 8, 9, 10, 11, 12, 13, 14, 15, 16, 17, 18, 19, 20, 21], []), ([0, 1, 2, 3, 4, 5, 6, 7, 8, 9, 10, 11, 12, 13, 14, 15, 16, 17, 18, 19, 20, 21, 22], [])] (by kernel_rfl) ?_
    simp -dsimp -implicitDefEqProofs only [go_sem, seval]
    refine QFn.use _ t3 (by simp -dsimp -implicitDefEqProofs only [go_sem, seval]) ?_
    simp -dsimp -implicitDefEqProofs only [go_sem, seval, y3]
    refine QFn.use _ t4 (by simp -dsimp -implicitDefEqProofs only [go_sem, seval]) ?_
    simp -dsimp -implicitDefEqProofs only [go_sem, seval, y4]
    refine AtFn.pure0 pl ?_
    simp -dsimp -implicitDefEqProofs only [go_sem, seval]
def goesW (x y : Ar) : Bool := decide (x.a.op ≠ 3) && (decide (y.a.op ≠ 3) && (decide (x.b.op = 0) && decide (y.a.op = 0)))
theorem goes45 (x y : Ar) : PFun Try.prog 45 [ArA x, ArA y] (Bo (goesW x y)) := by
  unfold goesW
  by_cases h1 : x.a.op = 3
  · refine PFun.intro 400 mixed Try.func45 (by kernel_rfl) rfl (by first | exact .v _ | (simp [Cl_v, Cl_t, Cl_g, Cl_fn, Cl_rp, Cl_ro]; done) | (simp [Cl_v, Cl_t, Cl_g, Cl_fn, Cl_rp, Cl_ro, or_imp, forall_and]; done) | (split <;> simp [Cl_v, Cl_t, Cl_g, Cl_fn, Cl_rp, Cl_ro])) (Nat.le_of_ble_eq_true rfl) ?_; rw [Try.ntmps45, Try.results45]
    simp -dsimp -implicitDefEqProofs only [go_sem, seval, h1]
  by_cases h2 : y.a.op = 3
  · refine PFun.intro 400 mixed Try.func45 (by kernel_rfl) rfl (by first | exact .v _ | (simp [Cl_v, Cl_t, Cl_g, Cl_fn, Cl_rp, Cl_ro]; done) | (simp [Cl_v, Cl_t, Cl_g, Cl_fn, Cl_rp, Cl_ro, or_imp, forall_and]; done) | (split <;> simp [Cl_v, Cl_t, Cl_g, Cl_fn, Cl_rp, Cl_ro])) (Nat.le_of_ble_eq_true rfl) ?_; rw [Try.ntmps45, Try.results45]
    simp -dsimp -implicitDefEqProofs only [go_sem, seval, h1, h2]
  by_cases h3 : x.b.op = 0
  · by_cases h4 : y.a.op = 0
    · refine PFun.intro 400 mixed Try.func45 (by kernel_rfl) rfl (by first | exact .v _ | (simp [Cl_v, Cl_t, Cl_g, Cl_fn, Cl_rp, Cl_ro]; done) | (simp [Cl_v, Cl_t, Cl_g, Cl_fn, Cl_rp, Cl_ro, or_imp, forall_and]; done) | (split <;> simp [Cl_v, Cl_t, Cl_g, Cl_fn, Cl_rp, Cl_ro])) (Nat.le_of_ble_eq_true rfl) ?_; rw [Try.ntmps45, Try.results45]
      simp -dsimp -implicitDefEqProofs only [go_sem, seval, h1, h2, h3, h4]
    · refine PFun.intro 400 mixed Try.func45 (by kernel_rfl) rfl (by first | exact .v _ | (simp [Cl_v, Cl_t, Cl_g, Cl_fn, Cl_rp, Cl_ro]; done) | (simp [Cl_v, Cl_t, Cl_g, Cl_fn, Cl_rp, Cl_ro, or_imp, forall_and]; done) | (split <;> simp [Cl_v, Cl_t, Cl_g, Cl_fn, Cl_rp, Cl_ro])) (Nat.le_of_ble_eq_true rfl) ?_; rw [Try.ntmps45, Try.results45]
      simp -dsimp -implicitDefEqProofs only [go_sem, seval, h1, h2, h3, h4]
  · refine PFun.intro 400 mixed Try.func45 (by kernel_rfl) rfl (by first | exact .v _ | (simp [Cl_v, Cl_t, Cl_g, Cl_fn, Cl_rp, Cl_ro]; done) | (simp [Cl_v, Cl_t, Cl_g, Cl_fn, Cl_rp, Cl_ro, or_imp, forall_and]; done) | (split <;> simp [Cl_v, Cl_t, Cl_g, Cl_fn, Cl_rp, Cl_ro])) (Nat.le_of_ble_eq_true rfl) ?_; rw [Try.ntmps45, Try.results45]
    simp -dsimp -implicitDefEqProofs only [go_sem, seval, h1, h2, h3]
end

end Go.Proofs.Ytckbchkkjnahlaa
