/- What functions of the given program answer, part 3. Conditions: each theorem speaks for itself. -/
import Derived.Test.YtfmlhmfbhcfnpaaDoorBTy
import Derived.Test.YtfmlhmfbhcfnpaaDoorBF1
import Derived.Test.YtfmlhmfbhcfnpaaDoorBF2
set_option linter.unusedSimpArgs false
set_option linter.unusedVariables false
namespace Go.Proofs.YtfmlhmfbhcfnpaaDoor
open Go Go.Eng Go.RowKit
attribute [local go_sem ↓] qE_move qE_assign qE_pick qE_load qE_fieldAddr qE_indexAddr qE_extract qE_binOp qE_neg qE_not qE_convert qE_makeFunc qE_build qE_len qE_max2 qE_min2 qE_usd qE_nilCheck qE_slice vc_end vc_skip vc_scope vc_ret vc_seq vc_cond vc_block vc_exit vc_region vc_draw vc_rangeFunc vc_loop vc_blk vc_lp vc_o_nil vc_o vc_o_guard onK_eq oK_move oK_assign oK_pick oK_load oK_fieldAddr oK_indexAddr oK_index oK_extract oK_binOp oK_unOp oK_convert oK_makeFunc oK_nilCheck oK_slice oK_build oK_len oK_max oK_ustr oK_min onN_eq oK_box oK_alloc oK_buildSlice oK_makeSlice onH_eq oK_store onA_eq oK_append oK_call oK_range oK_next bV_add bV_sub bV_mul bV_quo bV_rem bV_and bV_or bV_shl bV_shr bV_eql bV_neq bV_lss bV_leq bV_gtr bV_geq bV_add_s bV_eql_s bV_neq_s vcQ_nil vcQ_cons Q_move Q_assign Q_load Q_fieldAddr Q_indexAddr Q_index Q_binOp Q_nilCheck Q_slice Q_build Q_len Q_usd Q_min Q_buildSlice onQA_eq Q_append Q_call qE_index tailB_nil tailB_true onS_eq tailB_store onQ_eq onQB_eq loadE indexE
attribute [local go_sem] force_eq optK_some optE_some optE_none vK_v bK_v tK_t fnK_fn fyK_fn fyK_y nK_ptr pK_ptr pK_rp brK_true brK_false brK_not evA_tmp evA_const evA_func putA_some putA_none pushA_eq slots_zero tl_nil tl_cons find_cons find_nil setN_cons setN_nil dropN_nil dropN_cons loE_none loE_some hiE_none hiE_some slE_sl slE_ro slE_str bE_pp bE_p0 bE_00 bE_i bE_s bE_eql intsA_nil intsA_cons slK_sl ptrV_eql ptrV_neq gdK_b popTo_blk popTo_c popTo_lp nilE_tmp nilE_int nilE_str nilE_ptr nilE_nil srcE_ro srcE_sl srcE_str dstE_sl dstE_nil apK_E fin_eq res_nil res_tmp res_cell tup1 tup0 optA_some frz_v frz_ro frz_rp frz_g frz_fn frz_ptr frz_sl optL_some nm_v nm_ro nm_rp nm_g nm_fn nm_ptr nm_sl cells_v cells_g cells_ro cells_ptr cells_sl one_int one_string one_slice oneA_v oneA_ro oneA_ptr oneA_sl ofV_int ofV_bool ofV_string ofV_slice ofV_nilFunc ofV_pointer len_ro len_sl asI_int fill_nil fill_cons chunks_nil chunks_cons DrawK_eq idR_eq addB_some roB_nil dstQ_ez sg_nil sg_cons ren_v ren_nil ren_ptr ren_sl ren_ro ren_rp iK_ro iK_sl ixE_s RfEnd_eq RfQ_eq RfBody_eq takeA_00 takeA_s updL_cons updL_nil nil_eq maskE_eq i_InlQ i_tup2 i_RenF_nil i_RenF_cons i_cut_nil i_cut_cons wrap_wr brK_dec maskH_eq upd_get slots_succ Cl_v Cl_ro Cl_rp Cl_fn Cl_g Cl_t g_put0 g_put1 u_nil u_tmp u_cell u_fin Bool.false_eq_true decide_true decide_false beq_self_eq_true true_and and_true ne_eq not_true not_false_eq_true List.elem_cons List.elem_nil List.contains_cons List.contains_nil List.getD_cons_zero List.getD_cons_succ Int.cast_ofNat_Int Bool.or_true Bool.true_or Bool.or_false Bool.false_or if_true if_false List.toList_toArray List.map_cons List.map_nil List.cons_append List.nil_append List.append_nil List.flatMap_cons List.flatMap_nil List.getElem?_cons_zero List.getElem?_cons_succ List.length_cons List.length_nil List.drop_succ_cons List.drop_zero List.take_succ_cons List.take_zero List.all_cons List.all_nil List.set_cons_zero List.set_cons_succ Option.bind_some Option.bind_none Option.map_some Option.map_none List.headD_cons List.tail_cons List.getElem?_toArray beq_true beq_false Bool.not_true Bool.not_false Bool.true_and Bool.and_true Bool.false_and Bool.and_false newCh Option.some.injEq exists_eq_left' sg_nil sg_cons List.mem_cons List.not_mem_nil forall_eq_or_imp forall_eq false_implies implies_true or_false false_or false_and and_false or_true true_or exists_false Option.isSome_some Option.isSome_none List.range_zero
attribute [local go_sem] T.sz3 T.ag3 T.ik3 T.us3 T.sz5 T.by5 T.ag5 T.ik5 T.us5 T.ze5 T.sz9 T.by9 T.ag9 T.sl9 T.ar9 T.pt9 T.ik9 T.st9 T.ze9 T.us21 T.sz23 T.by23 T.ag23 T.sl23 T.ar23 T.pt23 T.ik23 T.us23 T.ux23 T.ze23 T.sz25 T.ag25 T.sf25 T.ze25 T.fl25_0 T.fl25_1 T.fl25_2 T.bu25 T.sz26 T.ag26 T.sf26 T.ze26 T.sz34 T.ag34 T.sl34 T.ar34 T.sf34 T.ze34 T.bu34 T.sl40 T.ik40 T.us40 T.ux40 T.sz50 T.by50 T.ag50 T.sl50 T.ar50 T.sf50 T.ze50 T.bu50 T.sl68 T.ar68 T.pt68 T.sz80 T.ag80 T.ik80 T.sf82 T.ze82 T.fl82_0 T.fl82_1 T.sz83 T.ag83 T.sl83 T.ik83 T.us83 T.ux83 T.sl91 T.ik117 -- NOREP
section
set_option maxRecDepth 20000
attribute [local go_sem] clPxT
/-- A digit's byte. -/
def digB (x : Int) : UInt8 := (#[48, 49, 50, 51, 52, 53, 54, 55, 56, 57, 97, 98, 99, 100, 101, 102] : Array UInt8).getD x.toNat 0
def pxT (x : Int) : List UInt8 := if x = 0 then [46, 46] else [digB (x / 16), digB (x % 16)]
def rowT (r : List Int) : List UInt8 := r.flatMap pxT ++ [10]
def textP (r : Ra) : List UInt8 × Int := if vaB r then ((rowsP r.w.toNat r.p).flatMap rowT, 0) else ([], 2)
abbrev Str (l : List UInt8) : AV := .v (.string ⟨l.toArray⟩)
def okP (p : List Int) : Prop := ∀ x ∈ p, 0 ≤ x ∧ x ≤ 255
/-- The blocks of Text, its builder's text so far being T. -/
def bst (X0 X2 : Blk) (T : List UInt8) : List (Nat × Blk) :=
  match T with
  | [] => [(1, ⟨2, [[.v (.pointer none), .v (.slice none 0 0)]]⟩), (2, X2), (0, X0)]
  | _ => [(1, ⟨2, [[.ptr 1 0 0, .sl 3 0 T.length]]⟩), (2, X2), (0, X0), (3, ⟨1, byC T⟩)]
def gst (T : List UInt8) : List (Nat × AV) :=
  match T with
  | [] => [(100, .tb 1 82)]
  | _ => [(100, .tb 1 82), (101, .tb 3 5)]
theorem bst_nil (X0 X2 : Blk) : bst X0 X2 [] = [(1, ⟨2, [[.v (.pointer none), .v (.slice none 0 0)]]⟩), (2, X2), (0, X0)] := rfl
theorem bst_cons (X0 X2 : Blk) {T : List UInt8} (h : T ≠ []) : bst X0 X2 T = [(1, ⟨2, [[.ptr 1 0 0, .sl 3 0 T.length]]⟩), (2, X2), (0, X0), (3, ⟨1, byC T⟩)] := by
  cases T with
  | nil => exact absurd rfl h
  | cons a l => rfl
theorem gst_nil : gst [] = [(100, .tb 1 82)] := rfl
theorem gst_cons {T : List UInt8} (h : T ≠ []) : gst T = [(100, .tb 1 82), (101, .tb 3 5)] := by
  cases T with
  | nil => exact absurd rfl h
  | cons a l => rfl
theorem bst_find2 (X0 X2 : Blk) (T : List UInt8) : find (bst X0 X2 T) 2 = some X2 := by cases T <;> rfl
theorem ren_tbI {σ : Nat → Nat} {ns : List Nat} {m n : Nat} {T T' : TypeId} : Ren σ ns (.tb m T) (.tb n T') ↔ (m = σ n ∧ T = T' ∧ n ∈ ns) := by
  constructor
  · intro h
    cases h with
    | cl h => cases h
    | tb h => exact ⟨rfl, rfl, h⟩
  · rintro ⟨rfl, rfl, h⟩
    exact .tb h
attribute [local go_sem] bst_find2 ren_tbI
theorem pxT_ne (x : Int) : pxT x ≠ [] := by unfold pxT; split <;> simp
theorem pxT_len (x : Int) : (pxT x).length = 2 := by unfold pxT; split <;> rfl
theorem rowsP_len {w h : Nat} {p : List Int} (w1 : 1 ≤ w) (hlen : p.length = w * h) : (rowsP w p).length = h := by
  unfold rowsP
  rw [List.length_reverse, chunkL_len, hlen, show w * h + w - 1 = w * h + (w - 1) by omega, Nat.mul_add_div (by omega), Nat.div_eq_of_lt (by omega)]
  omega
theorem rowsP_get {w h j : Nat} {p : List Int} (w1 : 1 ≤ w) (hlen : p.length = w * h) (hj : j < h) : (rowsP w p)[j]? = some ((p.drop ((h - 1 - j) * w)).take w) := by
  have hl := rowsP_len w1 hlen
  unfold rowsP at hl ⊢
  rw [List.length_reverse] at hl
  rw [List.getElem?_reverse (by omega), hl]
  unfold chunkL at hl ⊢
  rw [List.length_map, List.length_range] at hl
  rw [List.getElem?_map, hl, List.getElem?_range (by omega)]
  rfl
theorem row_len {w h j : Nat} {p : List Int} (hlen : p.length = w * h) (hj : j < h) : ((p.drop ((h - 1 - j) * w)).take w).length = w := by
  rw [List.length_take, List.length_drop, hlen]
  have : (h - 1 - j + 1) * w ≤ h * w := Nat.mul_le_mul_right _ (by omega)
  rw [Nat.succ_mul, Nat.mul_comm h w] at this
  omega
theorem flat_len {α : Type} {l : List α} {f : α → List UInt8} {n : Nat} (h : ∀ x ∈ l, (f x).length = n) : (l.flatMap f).length = l.length * n := by
  induction l with
  | nil => simp
  | cons a l ih => rw [List.flatMap_cons, List.length_append, h a (List.mem_cons_self ..), ih (fun x hx => h x (List.mem_cons_of_mem _ hx)), List.length_cons, Nat.succ_mul]; omega
theorem rowT_len (r : List Int) : (rowT r).length = 2 * r.length + 1 := by
  unfold rowT
  rw [List.length_append, flat_len (fun x _ => pxT_len x)]
  simp; omega
abbrev digits : ByteArray := { data := #[48, 49, 50, 51, 52, 53, 54, 55, 56, 57, 97, 98, 99, 100, 101, 102] }
abbrev hA (x : Int) : Int := x.fdiv (2 ^ min 4 8)
abbrev hB (x : Int) : Int := IntKind.u8.wrap (x.fdiv (2 ^ min 4 8) + 1)
abbrev hC (x : Int) : Int := IntKind.u8.wrap ↑(BitVec.ofInt IntKind.u8.bits x &&& BitVec.ofInt IntKind.u8.bits 15).toNat
abbrev hD (x : Int) : Int := IntKind.u8.wrap (IntKind.u8.wrap ↑(BitVec.ofInt IntKind.u8.bits x &&& BitVec.ofInt IntKind.u8.bits 15).toNat + 1)
abbrev hE (x : Int) : ByteArray := digits.extract (hA x).toNat (hB x).toNat
abbrev hF (x : Int) : ByteArray := digits.extract (hC x).toNat (hD x).toNat
def hexB (x : Int) : Bool := decide (0 ≤ hA x) && decide (0 ≤ hB x) && (decide ((hA x).toNat ≤ (hB x).toNat) && decide ((hB x).toNat ≤ 16)) && decide (0 ≤ hC x) && decide (0 ≤ hD x) && (decide ((hC x).toNat ≤ (hD x).toNat) && decide ((hD x).toNat ≤ 16)) && decide ((hE x).size + (hF x).size ≤ 9223372036854775807) && decide ((hE x ++ hF x).data.toList = pxT x)
theorem hex_all : ((List.range 255).all fun n => hexB ((n : Int) + 1)) = true := by kernel_rfl
theorem hex_ok {x : Int} (h : 0 ≤ x ∧ x ≤ 255) (h0 : ¬ x = 0) : ((0 ≤ hA x ∧ 0 ≤ hB x ∧ ((hA x).toNat ≤ (hB x).toNat ∧ (hB x).toNat ≤ 16)) ∧ (0 ≤ hC x ∧ 0 ≤ hD x ∧ ((hC x).toNat ≤ (hD x).toNat ∧ (hD x).toNat ≤ 16)) ∧ (hE x).size + (hF x).size ≤ 9223372036854775807) ∧ (hE x ++ hF x).data.toList = pxT x := by
  have := List.all_eq_true.1 hex_all (x - 1).toNat (List.mem_range.2 (by omega))
  rw [show (((x - 1).toNat : Nat) : Int) + 1 = x by omega] at this
  simp only [hexB, Bool.and_eq_true, decide_eq_true_eq] at this
  obtain ⟨⟨⟨⟨⟨⟨⟨q1, q2⟩, q3⟩, q4⟩, q5⟩, q6⟩, q7⟩, q8⟩ := this
  exact ⟨⟨⟨q1, q2, q3⟩, ⟨q4, q5, q6⟩, q7⟩, q8⟩
theorem text17 (r : Ra) (hok : okP r.p) : PFun Tryd.prog 17 [RaA r] (.t [Str (textP r).1, I (textP r).2]) := by
  have hv := valid62 r
  unfold textP
  by_cases hc : vaB r = true
  · rw [if_pos hc]
    obtain ⟨w, h, p, rfl, w1, w2, h1, h2, hlen⟩ := vaR_of hc
    have hN := prodN w2 h2
    have hpos : 1 ≤ w * h := Nat.mul_pos w1 h1
    have hr := rows63 w (h : Int) p w1 (by omega) (by omega) (by omega)
    obtain ⟨R, hR⟩ : ∃ R, R = rowsP w p := ⟨_, rfl⟩
    show PFun Tryd.prog 17 [RaA ⟨w, h, p⟩] (.t [Str ((rowsP w p).flatMap rowT), I 0])
    rw [← hR] at hr ⊢
    refine PFun.introM 400 mixed Tryd.func17 (by kernel_rfl) rfl (by first | exact .v _ | (simp [Cl_v, Cl_t, Cl_g, Cl_fn, Cl_rp, Cl_ro]; done) | (simp [Cl_v, Cl_t, Cl_g, Cl_fn, Cl_rp, Cl_ro, or_imp, forall_and]; done) | (split <;> simp [Cl_v, Cl_t, Cl_g, Cl_fn, Cl_rp, Cl_ro])) (Nat.le_of_ble_eq_true rfl) ?_; rw [Tryd.ntmps17, Tryd.results17]
    simp -dsimp -implicitDefEqProofs (maxSteps := 1000000) only [go_sem, ↓reduceIte, Nat.reduceAdd, Nat.reduceSub, Nat.reduceMul, Nat.reduceLT, Nat.reduceLeDiff, Nat.reduceEqDiff, Nat.reduceBEq, Nat.reduceBNe, Int.reduceToNat, Int.reduceLT, Int.reduceLE, Int.reduceNeg, reduceCtorEq, Int.reduceEq, Int.reduceNe]
    refine AtFn.pure0 hv ?_
    simp -dsimp -implicitDefEqProofs (maxSteps := 1000000) only [go_sem, ↓reduceIte, Nat.reduceAdd, Nat.reduceSub, Nat.reduceMul, Nat.reduceLT, Nat.reduceLeDiff, Nat.reduceEqDiff, Nat.reduceBEq, Nat.reduceBNe, Int.reduceToNat, Int.reduceLT, Int.reduceLE, Int.reduceNeg, reduceCtorEq, Int.reduceEq, Int.reduceNe, hc]
    refine AtOp.allocT 0 100 rfl ?_
    simp -dsimp -implicitDefEqProofs (maxSteps := 1000000) only [go_sem, ↓reduceIte, Nat.reduceAdd, Nat.reduceSub, Nat.reduceMul, Nat.reduceLT, Nat.reduceLeDiff, Nat.reduceEqDiff, Nat.reduceBEq, Nat.reduceBNe, Int.reduceToNat, Int.reduceLT, Int.reduceLE, Int.reduceNeg, reduceCtorEq, Int.reduceEq, Int.reduceNe]
    refine AtFn.new hr ?_
    simp -dsimp -implicitDefEqProofs (maxSteps := 1000000) only [go_sem, ↓reduceIte, Nat.reduceAdd, Nat.reduceSub, Nat.reduceMul, Nat.reduceLT, Nat.reduceLeDiff, Nat.reduceEqDiff, Nat.reduceBEq, Nat.reduceBNe, Int.reduceToNat, Int.reduceLT, Int.reduceLE, Int.reduceNeg, reduceCtorEq, Int.reduceEq, Int.reduceNe, List.length_map]
    obtain ⟨X0, hX0⟩ : ∃ X0 : Blk, X0 = ⟨3, [[I w, I h, .ro 1 (pxC p)]]⟩ := ⟨_, rfl⟩
    have hX0c : ∀ c ∈ X0.l, ∀ s ∈ c, Cl s := by rw [hX0]; simp [Cl_v, Cl_ro, clPxT]
    have hRh : R.length = h := by rw [hR]; exact rowsP_len w1 hlen
    have hRl : R.length ≤ 65536 := by omega
    have hRg : ∀ j, j < R.length → R[j]? = some ((p.drop ((h - 1 - j) * w)).take w) := fun j hj => by rw [hR]; exact rowsP_get w1 hlen (by omega)
    have hRw : ∀ r ∈ R, r.length = w := fun r hr => by
      obtain ⟨j, hj⟩ := List.getElem?_of_mem hr
      have hjl : j < R.length := (List.getElem?_eq_some_iff.1 hj).1
      rw [hRg j hjl] at hj
      rw [← Option.some.inj hj]
      exact row_len hlen (by omega)
    have hTxt : ∀ j, ((R.take j).flatMap rowT).length ≤ 131328 := fun j => by
      rw [flat_len (n := 2 * w + 1) (fun r hr => by rw [rowT_len, hRw r (List.mem_of_mem_take hr)]), List.length_take]
      have : min j R.length * (2 * w + 1) ≤ 256 * 513 := Nat.mul_le_mul (by omega) (by omega)
      omega
    have hokR : ∀ r ∈ R, okP r := fun r hr x hx => by
      obtain ⟨j, hj⟩ := List.getElem?_of_mem hr
      have hjl : j < R.length := (List.getElem?_eq_some_iff.1 hj).1
      rw [hRg j hjl] at hj
      rw [← Option.some.inj hj] at hx
      exact hok x (List.mem_of_mem_drop (List.mem_of_mem_take hx))
    refine ⟨{j : Nat // j ≤ R.length}, fun j => ⟨46, tl ([(4, .ptr 1 0 0), (13, .sl 2 0 R.length), (14, I R.length), (15, I j.1)] ++ gst ((R.take j.1).flatMap rowT)), bst X0 ⟨1, R.map rowC⟩ ((R.take j.1).flatMap rowT), 4, ⟨[], some (.mp none)⟩⟩, fun j => R.length - j.1,
      ⟨⟨0, by omega⟩, Le.tl (Ls := []) [] ?_ ?_ ?_ ?_ trivial⟩, fun j => ?_⟩
    · simp -dsimp -implicitDefEqProofs (maxSteps := 1000000) only [go_sem, ↓reduceIte, Nat.reduceAdd, Nat.reduceSub, Nat.reduceMul, Nat.reduceLT, Nat.reduceLeDiff, Nat.reduceEqDiff, Nat.reduceBEq, Nat.reduceBNe, Int.reduceToNat, Int.reduceLT, Int.reduceLE, Int.reduceNeg, reduceCtorEq, Int.reduceEq, Int.reduceNe, List.take_zero, List.flatMap_nil, gst_nil, bst_nil]
    · simp -dsimp -implicitDefEqProofs (maxSteps := 1000000) only [go_sem, ↓reduceIte, Nat.reduceAdd, Nat.reduceSub, Nat.reduceMul, Nat.reduceLT, Nat.reduceLeDiff, Nat.reduceEqDiff, Nat.reduceBEq, Nat.reduceBNe, Int.reduceToNat, Int.reduceLT, Int.reduceLE, Int.reduceNeg, reduceCtorEq, Int.reduceEq, Int.reduceNe, List.take_zero, List.flatMap_nil, gst_nil, bst_nil, hX0]
      exact ⟨renL_F (by simp -dsimp -implicitDefEqProofs (maxSteps := 1000000) only [go_sem, ↓reduceIte, Nat.reduceAdd, Nat.reduceSub, Nat.reduceMul, Nat.reduceLT, Nat.reduceLeDiff, Nat.reduceEqDiff, Nat.reduceBEq, Nat.reduceBNe, Int.reduceToNat, Int.reduceLT, Int.reduceLE, Int.reduceNeg, reduceCtorEq, Int.reduceEq, Int.reduceNe]), renL_cl2 rfl (clRows _), renL_F (by simp -dsimp -implicitDefEqProofs (maxSteps := 1000000) only [go_sem, ↓reduceIte, Nat.reduceAdd, Nat.reduceSub, Nat.reduceMul, Nat.reduceLT, Nat.reduceLeDiff, Nat.reduceEqDiff, Nat.reduceBEq, Nat.reduceBNe, Int.reduceToNat, Int.reduceLT, Int.reduceLE, Int.reduceNeg, reduceCtorEq, Int.reduceEq, Int.reduceNe])⟩
    · simp [bst_nil]
    · simp [bst_nil, sg]
    obtain ⟨j, hj⟩ := j
    obtain ⟨T0, hT0⟩ : ∃ T0, T0 = (R.take j).flatMap rowT := ⟨_, rfl⟩
    simp only
    rw [← hT0]
    simp -dsimp -implicitDefEqProofs (maxSteps := 1000000) only [go_sem, ↓reduceIte, Nat.reduceAdd, Nat.reduceSub, Nat.reduceMul, Nat.reduceLT, Nat.reduceLeDiff, Nat.reduceEqDiff, Nat.reduceBEq, Nat.reduceBNe, Int.reduceToNat, Int.reduceLT, Int.reduceLE, Int.reduceNeg, reduceCtorEq, Int.reduceEq, Int.reduceNe, List.length_map, Int.natCast_nonneg, Int.toNat_natCast, List.getElem?_map, Nat.zero_add]
    refine ⟨fun hj' => ?_, fun hout => ?_⟩
    · have hjl : j < R.length := by omega
      obtain ⟨row, hrow⟩ : ∃ row, row = R.getD j [] := ⟨_, rfl⟩
      have gj : R[j]? = some row := by rw [hrow, List.getD, List.getElem?_eq_getElem hjl]; rfl
      have hrw : row.length = w := hRw row (List.mem_of_getElem? gj)
      have hT0l : T0.length ≤ 131328 := hT0 ▸ hTxt j
      have hokr : okP row := hokR row (List.mem_of_getElem? gj)
      have ej := wrA1 (a := j) (by omega)
      simp -dsimp -implicitDefEqProofs (maxSteps := 1000000) only [go_sem, ↓reduceIte, Nat.reduceAdd, Nat.reduceSub, Nat.reduceMul, Nat.reduceLT, Nat.reduceLeDiff, Nat.reduceEqDiff, Nat.reduceBEq, Nat.reduceBNe, Int.reduceToNat, Int.reduceLT, Int.reduceLE, Int.reduceNeg, reduceCtorEq, Int.reduceEq, Int.reduceNe, gj, hj']
      refine ⟨{i : Nat // i ≤ row.length}, fun i => ⟨46, tl ([(4, .ptr 1 0 0), (13, .sl 2 0 R.length), (14, I R.length), (15, I j), (19, .ro 1 (pxC row)), (20, I row.length), (21, I i.1)] ++ gst (T0 ++ (row.take i.1).flatMap pxT)), bst X0 ⟨1, R.map rowC⟩ (T0 ++ (row.take i.1).flatMap pxT), 4, ⟨[], some (.mp none)⟩⟩, fun i => row.length - i.1,
        ⟨⟨0, by omega⟩, ?_⟩, fun i => ?_⟩
      · simp only [List.take_zero, List.flatMap_nil, List.append_nil]
        simp only [List.cons_append, List.nil_append]
        by_cases hTT : T0 = []
        · rw [hTT, bst_nil, gst_nil]
          refine Le.tl (Ls := []) [] (by simp -dsimp -implicitDefEqProofs (maxSteps := 1000000) only [go_sem, ↓reduceIte, Nat.reduceAdd, Nat.reduceSub, Nat.reduceMul, Nat.reduceLT, Nat.reduceLeDiff, Nat.reduceEqDiff, Nat.reduceBEq, Nat.reduceBNe, Int.reduceToNat, Int.reduceLT, Int.reduceLE, Int.reduceNeg, reduceCtorEq, Int.reduceEq, Int.reduceNe, pxC_len]) ?_ (by simp) (by simp [sg]) trivial
          simp -dsimp -implicitDefEqProofs (maxSteps := 1000000) only [go_sem, ↓reduceIte, Nat.reduceAdd, Nat.reduceSub, Nat.reduceMul, Nat.reduceLT, Nat.reduceLeDiff, Nat.reduceEqDiff, Nat.reduceBEq, Nat.reduceBNe, Int.reduceToNat, Int.reduceLT, Int.reduceLE, Int.reduceNeg, reduceCtorEq, Int.reduceEq, Int.reduceNe]
          exact ⟨renL_F (by simp -dsimp -implicitDefEqProofs (maxSteps := 1000000) only [go_sem, ↓reduceIte, Nat.reduceAdd, Nat.reduceSub, Nat.reduceMul, Nat.reduceLT, Nat.reduceLeDiff, Nat.reduceEqDiff, Nat.reduceBEq, Nat.reduceBNe, Int.reduceToNat, Int.reduceLT, Int.reduceLE, Int.reduceNeg, reduceCtorEq, Int.reduceEq, Int.reduceNe]), renL_cl2 rfl (clRows _), renL_cl2 rfl hX0c⟩
        · rw [bst_cons _ _ hTT, gst_cons hTT]
          refine Le.tl (Ls := []) [] (by simp -dsimp -implicitDefEqProofs (maxSteps := 1000000) only [go_sem, ↓reduceIte, Nat.reduceAdd, Nat.reduceSub, Nat.reduceMul, Nat.reduceLT, Nat.reduceLeDiff, Nat.reduceEqDiff, Nat.reduceBEq, Nat.reduceBNe, Int.reduceToNat, Int.reduceLT, Int.reduceLE, Int.reduceNeg, reduceCtorEq, Int.reduceEq, Int.reduceNe, pxC_len]) ?_ (by simp) (by simp [sg]) trivial
          simp -dsimp -implicitDefEqProofs (maxSteps := 1000000) only [go_sem, ↓reduceIte, Nat.reduceAdd, Nat.reduceSub, Nat.reduceMul, Nat.reduceLT, Nat.reduceLeDiff, Nat.reduceEqDiff, Nat.reduceBEq, Nat.reduceBNe, Int.reduceToNat, Int.reduceLT, Int.reduceLE, Int.reduceNeg, reduceCtorEq, Int.reduceEq, Int.reduceNe]
          exact ⟨renL_F (by simp -dsimp -implicitDefEqProofs (maxSteps := 1000000) only [go_sem, ↓reduceIte, Nat.reduceAdd, Nat.reduceSub, Nat.reduceMul, Nat.reduceLT, Nat.reduceLeDiff, Nat.reduceEqDiff, Nat.reduceBEq, Nat.reduceBNe, Int.reduceToNat, Int.reduceLT, Int.reduceLE, Int.reduceNeg, reduceCtorEq, Int.reduceEq, Int.reduceNe]), renL_cl2 rfl (clRows _), renL_cl2 rfl hX0c, renL_cl2 rfl (clBy _)⟩
      obtain ⟨i, hi⟩ := i
      obtain ⟨T, hT⟩ : ∃ T, T = T0 ++ (row.take i).flatMap pxT := ⟨_, rfl⟩
      simp only
      rw [← hT]
      simp -dsimp -implicitDefEqProofs (maxSteps := 1000000) only [go_sem, ↓reduceIte, Nat.reduceAdd, Nat.reduceSub, Nat.reduceMul, Nat.reduceLT, Nat.reduceLeDiff, Nat.reduceEqDiff, Nat.reduceBEq, Nat.reduceBNe, Int.reduceToNat, Int.reduceLT, Int.reduceLE, Int.reduceNeg, reduceCtorEq, Int.reduceEq, Int.reduceNe, pxC_len, pxC_get, Int.natCast_nonneg, Int.toNat_natCast, Nat.zero_add]
      refine ⟨fun hi' => ?_, fun hout => ?_⟩
      · have hil : i < row.length := by omega
        obtain ⟨x, hx⟩ : ∃ x, x = row.getD i 0 := ⟨_, rfl⟩
        have gx : row[i]? = some x := by rw [hx, List.getD, List.getElem?_eq_getElem hil]; rfl
        have hTl : T.length ≤ 1073741820 := by
          rw [hT, List.length_append, flat_len (fun x _ => pxT_len x), List.length_take]
          omega
        have hxb := hokr x (List.mem_of_getElem? gx)
        have ei := wrA1 (a := i) (by omega)
        by_cases hx0 : x = 0
        · have hsd : ({ data := #[46, 46] } : ByteArray).data.toList = pxT x := by rw [hx0]; rfl
          simp -dsimp -implicitDefEqProofs (maxSteps := 1000000) only [go_sem, ↓reduceIte, Nat.reduceAdd, Nat.reduceSub, Nat.reduceMul, Nat.reduceLT, Nat.reduceLeDiff, Nat.reduceEqDiff, Nat.reduceBEq, Nat.reduceBNe, Int.reduceToNat, Int.reduceLT, Int.reduceLE, Int.reduceNeg, reduceCtorEq, Int.reduceEq, Int.reduceNe, gx, hx0]
          have e1 : T0 ++ (row.take (i + 1)).flatMap pxT = T ++ pxT x := by
            rw [hT, List.take_add_one, gx, List.flatMap_append, ← List.append_assoc]; simp
          have hne : T ++ pxT x ≠ [] := by simp [pxT_ne]
          refine AtFn.le ⟨46, tl ([(4, .ptr 1 0 0), (13, .sl 2 0 R.length), (14, I R.length), (15, I j), (19, .ro 1 (pxC row)), (20, I row.length), (21, I i)] ++ gst T), bst X0 ⟨1, R.map rowC⟩ T, 4, ⟨[], some (.mp none)⟩⟩ [.ptr 1 0 0, .v (.string ({ data := #[46, 46] }))] ?_ (by intro fo xs ts h; cases h; exact ⟨by simp -dsimp -implicitDefEqProofs (maxSteps := 1000000) only [go_sem, ↓reduceIte, Nat.reduceAdd, Nat.reduceSub, Nat.reduceMul, Nat.reduceLT, Nat.reduceLeDiff, Nat.reduceEqDiff, Nat.reduceBEq, Nat.reduceBNe, Int.reduceToNat, Int.reduceLT, Int.reduceLE, Int.reduceNeg, reduceCtorEq, Int.reduceEq, Int.reduceNe], by simp -dsimp -implicitDefEqProofs (maxSteps := 1000000) only [go_sem, ↓reduceIte, Nat.reduceAdd, Nat.reduceSub, Nat.reduceMul, Nat.reduceLT, Nat.reduceLeDiff, Nat.reduceEqDiff, Nat.reduceBEq, Nat.reduceBNe, Int.reduceToNat, Int.reduceLT, Int.reduceLE, Int.reduceNeg, reduceCtorEq, Int.reduceEq, Int.reduceNe]⟩) ?_
          · simp only [List.cons_append, List.nil_append]
            by_cases hTT : T = []
            · rw [hTT, bst_nil, gst_nil]
              refine Le.tl (Ls := []) [] (by simp -dsimp -implicitDefEqProofs (maxSteps := 1000000) only [go_sem, ↓reduceIte, Nat.reduceAdd, Nat.reduceSub, Nat.reduceMul, Nat.reduceLT, Nat.reduceLeDiff, Nat.reduceEqDiff, Nat.reduceBEq, Nat.reduceBNe, Int.reduceToNat, Int.reduceLT, Int.reduceLE, Int.reduceNeg, reduceCtorEq, Int.reduceEq, Int.reduceNe]) ?_ (by simp) (by simp [sg]) trivial
              simp -dsimp -implicitDefEqProofs (maxSteps := 1000000) only [go_sem, ↓reduceIte, Nat.reduceAdd, Nat.reduceSub, Nat.reduceMul, Nat.reduceLT, Nat.reduceLeDiff, Nat.reduceEqDiff, Nat.reduceBEq, Nat.reduceBNe, Int.reduceToNat, Int.reduceLT, Int.reduceLE, Int.reduceNeg, reduceCtorEq, Int.reduceEq, Int.reduceNe]
              exact ⟨renL_F (by simp -dsimp -implicitDefEqProofs (maxSteps := 1000000) only [go_sem, ↓reduceIte, Nat.reduceAdd, Nat.reduceSub, Nat.reduceMul, Nat.reduceLT, Nat.reduceLeDiff, Nat.reduceEqDiff, Nat.reduceBEq, Nat.reduceBNe, Int.reduceToNat, Int.reduceLT, Int.reduceLE, Int.reduceNeg, reduceCtorEq, Int.reduceEq, Int.reduceNe]), renL_cl2 rfl (clRows _), renL_cl2 rfl hX0c⟩
            · rw [bst_cons _ _ hTT, gst_cons hTT]
              refine Le.tl (Ls := []) [] (by simp -dsimp -implicitDefEqProofs (maxSteps := 1000000) only [go_sem, ↓reduceIte, Nat.reduceAdd, Nat.reduceSub, Nat.reduceMul, Nat.reduceLT, Nat.reduceLeDiff, Nat.reduceEqDiff, Nat.reduceBEq, Nat.reduceBNe, Int.reduceToNat, Int.reduceLT, Int.reduceLE, Int.reduceNeg, reduceCtorEq, Int.reduceEq, Int.reduceNe]) ?_ (by simp) (by simp [sg]) trivial
              simp -dsimp -implicitDefEqProofs (maxSteps := 1000000) only [go_sem, ↓reduceIte, Nat.reduceAdd, Nat.reduceSub, Nat.reduceMul, Nat.reduceLT, Nat.reduceLeDiff, Nat.reduceEqDiff, Nat.reduceBEq, Nat.reduceBNe, Int.reduceToNat, Int.reduceLT, Int.reduceLE, Int.reduceNeg, reduceCtorEq, Int.reduceEq, Int.reduceNe]
              exact ⟨renL_F (by simp -dsimp -implicitDefEqProofs (maxSteps := 1000000) only [go_sem, ↓reduceIte, Nat.reduceAdd, Nat.reduceSub, Nat.reduceMul, Nat.reduceLT, Nat.reduceLeDiff, Nat.reduceEqDiff, Nat.reduceBEq, Nat.reduceBNe, Int.reduceToNat, Int.reduceLT, Int.reduceLE, Int.reduceNeg, reduceCtorEq, Int.reduceEq, Int.reduceNe]), renL_cl2 rfl (clRows _), renL_cl2 rfl hX0c, renL_cl2 rfl (clBy _)⟩
          by_cases hTe : T = []
          · rw [hTe, bst_nil, gst_nil]
            refine ws64f _ _ _ (by rw [← size_len, hsd, pxT_len]; decide) (by rw [← size_len, hsd, pxT_len]; decide) (by simp -dsimp -implicitDefEqProofs (maxSteps := 1000000) only [go_sem, ↓reduceIte, Nat.reduceAdd, Nat.reduceSub, Nat.reduceMul, Nat.reduceLT, Nat.reduceLeDiff, Nat.reduceEqDiff, Nat.reduceBEq, Nat.reduceBNe, Int.reduceToNat, Int.reduceLT, Int.reduceLE, Int.reduceNeg, reduceCtorEq, Int.reduceEq, Int.reduceNe]) ?_
            rw [hsd]
            simp -dsimp -implicitDefEqProofs (maxSteps := 1000000) only [go_sem, ↓reduceIte, Nat.reduceAdd, Nat.reduceSub, Nat.reduceMul, Nat.reduceLT, Nat.reduceLeDiff, Nat.reduceEqDiff, Nat.reduceBEq, Nat.reduceBNe, Int.reduceToNat, Int.reduceLT, Int.reduceLE, Int.reduceNeg, reduceCtorEq, Int.reduceEq, Int.reduceNe]
            refine ⟨⟨i + 1, by omega⟩, by show row.length - (i + 1) < row.length - i; omega, ?_⟩
            simp only [e1]
            rw [bst_cons _ _ hne, gst_cons hne]
            refine Le.tl (Ls := []) [(3, 4)] (by simp -dsimp -implicitDefEqProofs (maxSteps := 1000000) only [go_sem, ↓reduceIte, Nat.reduceAdd, Nat.reduceSub, Nat.reduceMul, Nat.reduceLT, Nat.reduceLeDiff, Nat.reduceEqDiff, Nat.reduceBEq, Nat.reduceBNe, Int.reduceToNat, Int.reduceLT, Int.reduceLE, Int.reduceNeg, reduceCtorEq, Int.reduceEq, Int.reduceNe, ei]) ?_ (by simp) (by simp [sg]) trivial
            simp -dsimp -implicitDefEqProofs (maxSteps := 1000000) only [go_sem, ↓reduceIte, Nat.reduceAdd, Nat.reduceSub, Nat.reduceMul, Nat.reduceLT, Nat.reduceLeDiff, Nat.reduceEqDiff, Nat.reduceBEq, Nat.reduceBNe, Int.reduceToNat, Int.reduceLT, Int.reduceLE, Int.reduceNeg, reduceCtorEq, Int.reduceEq, Int.reduceNe]
            exact ⟨renL_F (by simp -dsimp -implicitDefEqProofs (maxSteps := 1000000) only [go_sem, ↓reduceIte, Nat.reduceAdd, Nat.reduceSub, Nat.reduceMul, Nat.reduceLT, Nat.reduceLeDiff, Nat.reduceEqDiff, Nat.reduceBEq, Nat.reduceBNe, Int.reduceToNat, Int.reduceLT, Int.reduceLE, Int.reduceNeg, reduceCtorEq, Int.reduceEq, Int.reduceNe, hTe, List.nil_append]), renL_cl2 rfl (clRows _), renL_cl2 rfl hX0c, renL_cl2 (by rw [hTe, List.nil_append]) (clBy _)⟩
          · rw [bst_cons _ _ hTe, gst_cons hTe]
            refine ws64u _ _ _ _ hTe ?_ (by simp -dsimp -implicitDefEqProofs (maxSteps := 1000000) only [go_sem, ↓reduceIte, Nat.reduceAdd, Nat.reduceSub, Nat.reduceMul, Nat.reduceLT, Nat.reduceLeDiff, Nat.reduceEqDiff, Nat.reduceBEq, Nat.reduceBNe, Int.reduceToNat, Int.reduceLT, Int.reduceLE, Int.reduceNeg, reduceCtorEq, Int.reduceEq, Int.reduceNe]) (by simp -dsimp -implicitDefEqProofs (maxSteps := 1000000) only [go_sem, ↓reduceIte, Nat.reduceAdd, Nat.reduceSub, Nat.reduceMul, Nat.reduceLT, Nat.reduceLeDiff, Nat.reduceEqDiff, Nat.reduceBEq, Nat.reduceBNe, Int.reduceToNat, Int.reduceLT, Int.reduceLE, Int.reduceNeg, reduceCtorEq, Int.reduceEq, Int.reduceNe]) ?_
            · rw [← size_len, hsd, pxT_len]; omega
            rw [hsd]
            simp -dsimp -implicitDefEqProofs (maxSteps := 1000000) only [go_sem, ↓reduceIte, Nat.reduceAdd, Nat.reduceSub, Nat.reduceMul, Nat.reduceLT, Nat.reduceLeDiff, Nat.reduceEqDiff, Nat.reduceBEq, Nat.reduceBNe, Int.reduceToNat, Int.reduceLT, Int.reduceLE, Int.reduceNeg, reduceCtorEq, Int.reduceEq, Int.reduceNe]
            refine ⟨⟨i + 1, by omega⟩, by show row.length - (i + 1) < row.length - i; omega, ?_⟩
            simp only [e1]
            rw [bst_cons _ _ hne, gst_cons hne]
            refine Le.tl (Ls := []) [(3, 4)] (by simp -dsimp -implicitDefEqProofs (maxSteps := 1000000) only [go_sem, ↓reduceIte, Nat.reduceAdd, Nat.reduceSub, Nat.reduceMul, Nat.reduceLT, Nat.reduceLeDiff, Nat.reduceEqDiff, Nat.reduceBEq, Nat.reduceBNe, Int.reduceToNat, Int.reduceLT, Int.reduceLE, Int.reduceNeg, reduceCtorEq, Int.reduceEq, Int.reduceNe, ei]) ?_ (by simp) (by simp [sg]) trivial
            simp -dsimp -implicitDefEqProofs (maxSteps := 1000000) only [go_sem, ↓reduceIte, Nat.reduceAdd, Nat.reduceSub, Nat.reduceMul, Nat.reduceLT, Nat.reduceLeDiff, Nat.reduceEqDiff, Nat.reduceBEq, Nat.reduceBNe, Int.reduceToNat, Int.reduceLT, Int.reduceLE, Int.reduceNeg, reduceCtorEq, Int.reduceEq, Int.reduceNe]
            exact ⟨renL_F (by simp -dsimp -implicitDefEqProofs (maxSteps := 1000000) only [go_sem, ↓reduceIte, Nat.reduceAdd, Nat.reduceSub, Nat.reduceMul, Nat.reduceLT, Nat.reduceLeDiff, Nat.reduceEqDiff, Nat.reduceBEq, Nat.reduceBNe, Int.reduceToNat, Int.reduceLT, Int.reduceLE, Int.reduceNeg, reduceCtorEq, Int.reduceEq, Int.reduceNe]), renL_cl2 rfl (clRows _), renL_cl2 rfl hX0c, renL_cl2 rfl (clBy _)⟩
        · simp -dsimp -implicitDefEqProofs (maxSteps := 1000000) only [go_sem, ↓reduceIte, Nat.reduceAdd, Nat.reduceSub, Nat.reduceMul, Nat.reduceLT, Nat.reduceLeDiff, Nat.reduceEqDiff, Nat.reduceBEq, Nat.reduceBNe, Int.reduceToNat, Int.reduceLT, Int.reduceLE, Int.reduceNeg, reduceCtorEq, Int.reduceEq, Int.reduceNe, gx, hx0]
          obtain ⟨⟨⟨q1, q2, q3⟩, ⟨q4, q5, q6⟩, q7⟩, hsd⟩ := hex_ok hxb hx0
          refine AtCode.draw 13 [([], []), ([0], []), ([], []), ([2], []), ([2, 3], []), ([0, 1, 2, 3, 4], []), ([], []), ([6], []), ([], []), ([8], []), ([8, 9], []), ([6, 7, 8, 9, 10], []), ([0, 1, 2, 3, 4, 5, 6, 7, 8, 9, 10, 11], []), ([0, 1, 2, 3, 4, 5, 6, 7, 8, 9, 10, 11, 12], [])] (by kernel_rfl) ?_
          simp -dsimp -implicitDefEqProofs (maxSteps := 1000000) only [go_sem, ↓reduceIte, Nat.reduceAdd, Nat.reduceSub, Nat.reduceMul, Nat.reduceLT, Nat.reduceLeDiff, Nat.reduceEqDiff, Nat.reduceBEq, Nat.reduceBNe, Int.reduceToNat, Int.reduceLT, Int.reduceLE, Int.reduceNeg, reduceCtorEq, Int.reduceEq, Int.reduceNe]
          refine ⟨q1, q2, q3, q4, q5, q6, q7, ?_⟩
          have e1 : T0 ++ (row.take (i + 1)).flatMap pxT = T ++ pxT x := by
            rw [hT, List.take_add_one, gx, List.flatMap_append, ← List.append_assoc]; simp
          have hne : T ++ pxT x ≠ [] := by simp [pxT_ne]
          refine AtFn.le ⟨46, tl ([(4, .ptr 1 0 0), (13, .sl 2 0 R.length), (14, I R.length), (15, I j), (19, .ro 1 (pxC row)), (20, I row.length), (21, I i), (40, .v (.string (hE x ++ hF x)))] ++ gst T), bst X0 ⟨1, R.map rowC⟩ T, 4, ⟨[], some (.mp none)⟩⟩ [.ptr 1 0 0, .v (.string (hE x ++ hF x))] ?_ (by intro fo xs ts h; cases h; exact ⟨by simp -dsimp -implicitDefEqProofs (maxSteps := 1000000) only [go_sem, ↓reduceIte, Nat.reduceAdd, Nat.reduceSub, Nat.reduceMul, Nat.reduceLT, Nat.reduceLeDiff, Nat.reduceEqDiff, Nat.reduceBEq, Nat.reduceBNe, Int.reduceToNat, Int.reduceLT, Int.reduceLE, Int.reduceNeg, reduceCtorEq, Int.reduceEq, Int.reduceNe], by simp -dsimp -implicitDefEqProofs (maxSteps := 1000000) only [go_sem, ↓reduceIte, Nat.reduceAdd, Nat.reduceSub, Nat.reduceMul, Nat.reduceLT, Nat.reduceLeDiff, Nat.reduceEqDiff, Nat.reduceBEq, Nat.reduceBNe, Int.reduceToNat, Int.reduceLT, Int.reduceLE, Int.reduceNeg, reduceCtorEq, Int.reduceEq, Int.reduceNe]⟩) ?_
          · simp only [List.cons_append, List.nil_append]
            by_cases hTT : T = []
            · rw [hTT, bst_nil, gst_nil]
              refine Le.tl (Ls := []) [] (by simp -dsimp -implicitDefEqProofs (maxSteps := 1000000) only [go_sem, ↓reduceIte, Nat.reduceAdd, Nat.reduceSub, Nat.reduceMul, Nat.reduceLT, Nat.reduceLeDiff, Nat.reduceEqDiff, Nat.reduceBEq, Nat.reduceBNe, Int.reduceToNat, Int.reduceLT, Int.reduceLE, Int.reduceNeg, reduceCtorEq, Int.reduceEq, Int.reduceNe]) ?_ (by simp) (by simp [sg]) trivial
              simp -dsimp -implicitDefEqProofs (maxSteps := 1000000) only [go_sem, ↓reduceIte, Nat.reduceAdd, Nat.reduceSub, Nat.reduceMul, Nat.reduceLT, Nat.reduceLeDiff, Nat.reduceEqDiff, Nat.reduceBEq, Nat.reduceBNe, Int.reduceToNat, Int.reduceLT, Int.reduceLE, Int.reduceNeg, reduceCtorEq, Int.reduceEq, Int.reduceNe]
              exact ⟨renL_F (by simp -dsimp -implicitDefEqProofs (maxSteps := 1000000) only [go_sem, ↓reduceIte, Nat.reduceAdd, Nat.reduceSub, Nat.reduceMul, Nat.reduceLT, Nat.reduceLeDiff, Nat.reduceEqDiff, Nat.reduceBEq, Nat.reduceBNe, Int.reduceToNat, Int.reduceLT, Int.reduceLE, Int.reduceNeg, reduceCtorEq, Int.reduceEq, Int.reduceNe]), renL_cl2 rfl (clRows _), renL_cl2 rfl hX0c⟩
            · rw [bst_cons _ _ hTT, gst_cons hTT]
              refine Le.tl (Ls := []) [] (by simp -dsimp -implicitDefEqProofs (maxSteps := 1000000) only [go_sem, ↓reduceIte, Nat.reduceAdd, Nat.reduceSub, Nat.reduceMul, Nat.reduceLT, Nat.reduceLeDiff, Nat.reduceEqDiff, Nat.reduceBEq, Nat.reduceBNe, Int.reduceToNat, Int.reduceLT, Int.reduceLE, Int.reduceNeg, reduceCtorEq, Int.reduceEq, Int.reduceNe]) ?_ (by simp) (by simp [sg]) trivial
              simp -dsimp -implicitDefEqProofs (maxSteps := 1000000) only [go_sem, ↓reduceIte, Nat.reduceAdd, Nat.reduceSub, Nat.reduceMul, Nat.reduceLT, Nat.reduceLeDiff, Nat.reduceEqDiff, Nat.reduceBEq, Nat.reduceBNe, Int.reduceToNat, Int.reduceLT, Int.reduceLE, Int.reduceNeg, reduceCtorEq, Int.reduceEq, Int.reduceNe]
              exact ⟨renL_F (by simp -dsimp -implicitDefEqProofs (maxSteps := 1000000) only [go_sem, ↓reduceIte, Nat.reduceAdd, Nat.reduceSub, Nat.reduceMul, Nat.reduceLT, Nat.reduceLeDiff, Nat.reduceEqDiff, Nat.reduceBEq, Nat.reduceBNe, Int.reduceToNat, Int.reduceLT, Int.reduceLE, Int.reduceNeg, reduceCtorEq, Int.reduceEq, Int.reduceNe]), renL_cl2 rfl (clRows _), renL_cl2 rfl hX0c, renL_cl2 rfl (clBy _)⟩
          by_cases hTe : T = []
          · rw [hTe, bst_nil, gst_nil]
            refine ws64f _ _ _ (by rw [← size_len, hsd, pxT_len]; decide) (by rw [← size_len, hsd, pxT_len]; decide) (by simp -dsimp -implicitDefEqProofs (maxSteps := 1000000) only [go_sem, ↓reduceIte, Nat.reduceAdd, Nat.reduceSub, Nat.reduceMul, Nat.reduceLT, Nat.reduceLeDiff, Nat.reduceEqDiff, Nat.reduceBEq, Nat.reduceBNe, Int.reduceToNat, Int.reduceLT, Int.reduceLE, Int.reduceNeg, reduceCtorEq, Int.reduceEq, Int.reduceNe]) ?_
            rw [hsd]
            simp -dsimp -implicitDefEqProofs (maxSteps := 1000000) only [go_sem, ↓reduceIte, Nat.reduceAdd, Nat.reduceSub, Nat.reduceMul, Nat.reduceLT, Nat.reduceLeDiff, Nat.reduceEqDiff, Nat.reduceBEq, Nat.reduceBNe, Int.reduceToNat, Int.reduceLT, Int.reduceLE, Int.reduceNeg, reduceCtorEq, Int.reduceEq, Int.reduceNe]
            refine ⟨⟨i + 1, by omega⟩, by show row.length - (i + 1) < row.length - i; omega, ?_⟩
            simp only [e1]
            rw [bst_cons _ _ hne, gst_cons hne]
            refine Le.tl (Ls := []) [(3, 4)] (by simp -dsimp -implicitDefEqProofs (maxSteps := 1000000) only [go_sem, ↓reduceIte, Nat.reduceAdd, Nat.reduceSub, Nat.reduceMul, Nat.reduceLT, Nat.reduceLeDiff, Nat.reduceEqDiff, Nat.reduceBEq, Nat.reduceBNe, Int.reduceToNat, Int.reduceLT, Int.reduceLE, Int.reduceNeg, reduceCtorEq, Int.reduceEq, Int.reduceNe, ei]) ?_ (by simp) (by simp [sg]) trivial
            simp -dsimp -implicitDefEqProofs (maxSteps := 1000000) only [go_sem, ↓reduceIte, Nat.reduceAdd, Nat.reduceSub, Nat.reduceMul, Nat.reduceLT, Nat.reduceLeDiff, Nat.reduceEqDiff, Nat.reduceBEq, Nat.reduceBNe, Int.reduceToNat, Int.reduceLT, Int.reduceLE, Int.reduceNeg, reduceCtorEq, Int.reduceEq, Int.reduceNe]
            exact ⟨renL_F (by simp -dsimp -implicitDefEqProofs (maxSteps := 1000000) only [go_sem, ↓reduceIte, Nat.reduceAdd, Nat.reduceSub, Nat.reduceMul, Nat.reduceLT, Nat.reduceLeDiff, Nat.reduceEqDiff, Nat.reduceBEq, Nat.reduceBNe, Int.reduceToNat, Int.reduceLT, Int.reduceLE, Int.reduceNeg, reduceCtorEq, Int.reduceEq, Int.reduceNe, hTe, List.nil_append]), renL_cl2 rfl (clRows _), renL_cl2 rfl hX0c, renL_cl2 (by rw [hTe, List.nil_append]) (clBy _)⟩
          · rw [bst_cons _ _ hTe, gst_cons hTe]
            refine ws64u _ _ _ _ hTe ?_ (by simp -dsimp -implicitDefEqProofs (maxSteps := 1000000) only [go_sem, ↓reduceIte, Nat.reduceAdd, Nat.reduceSub, Nat.reduceMul, Nat.reduceLT, Nat.reduceLeDiff, Nat.reduceEqDiff, Nat.reduceBEq, Nat.reduceBNe, Int.reduceToNat, Int.reduceLT, Int.reduceLE, Int.reduceNeg, reduceCtorEq, Int.reduceEq, Int.reduceNe]) (by simp -dsimp -implicitDefEqProofs (maxSteps := 1000000) only [go_sem, ↓reduceIte, Nat.reduceAdd, Nat.reduceSub, Nat.reduceMul, Nat.reduceLT, Nat.reduceLeDiff, Nat.reduceEqDiff, Nat.reduceBEq, Nat.reduceBNe, Int.reduceToNat, Int.reduceLT, Int.reduceLE, Int.reduceNeg, reduceCtorEq, Int.reduceEq, Int.reduceNe]) ?_
            · rw [← size_len, hsd, pxT_len]; omega
            rw [hsd]
            simp -dsimp -implicitDefEqProofs (maxSteps := 1000000) only [go_sem, ↓reduceIte, Nat.reduceAdd, Nat.reduceSub, Nat.reduceMul, Nat.reduceLT, Nat.reduceLeDiff, Nat.reduceEqDiff, Nat.reduceBEq, Nat.reduceBNe, Int.reduceToNat, Int.reduceLT, Int.reduceLE, Int.reduceNeg, reduceCtorEq, Int.reduceEq, Int.reduceNe]
            refine ⟨⟨i + 1, by omega⟩, by show row.length - (i + 1) < row.length - i; omega, ?_⟩
            simp only [e1]
            rw [bst_cons _ _ hne, gst_cons hne]
            refine Le.tl (Ls := []) [(3, 4)] (by simp -dsimp -implicitDefEqProofs (maxSteps := 1000000) only [go_sem, ↓reduceIte, Nat.reduceAdd, Nat.reduceSub, Nat.reduceMul, Nat.reduceLT, Nat.reduceLeDiff, Nat.reduceEqDiff, Nat.reduceBEq, Nat.reduceBNe, Int.reduceToNat, Int.reduceLT, Int.reduceLE, Int.reduceNeg, reduceCtorEq, Int.reduceEq, Int.reduceNe, ei]) ?_ (by simp) (by simp [sg]) trivial
            simp -dsimp -implicitDefEqProofs (maxSteps := 1000000) only [go_sem, ↓reduceIte, Nat.reduceAdd, Nat.reduceSub, Nat.reduceMul, Nat.reduceLT, Nat.reduceLeDiff, Nat.reduceEqDiff, Nat.reduceBEq, Nat.reduceBNe, Int.reduceToNat, Int.reduceLT, Int.reduceLE, Int.reduceNeg, reduceCtorEq, Int.reduceEq, Int.reduceNe]
            exact ⟨renL_F (by simp -dsimp -implicitDefEqProofs (maxSteps := 1000000) only [go_sem, ↓reduceIte, Nat.reduceAdd, Nat.reduceSub, Nat.reduceMul, Nat.reduceLT, Nat.reduceLeDiff, Nat.reduceEqDiff, Nat.reduceBEq, Nat.reduceBNe, Int.reduceToNat, Int.reduceLT, Int.reduceLE, Int.reduceNeg, reduceCtorEq, Int.reduceEq, Int.reduceNe]), renL_cl2 rfl (clRows _), renL_cl2 rfl hX0c, renL_cl2 rfl (clBy _)⟩
      · have hij : i = row.length := by omega
        have hTl2 : T.length = T0.length + row.length * 2 := by
          rw [hT, List.length_append, flat_len (fun x _ => pxT_len x), List.length_take, hij, Nat.min_self]
        have hTe : T ≠ [] := by
          intro e
          rw [e] at hTl2
          simp at hTl2
          omega
        have e1 : ((R.take (j + 1)).flatMap rowT) = T ++ [10] := by
          rw [List.take_add_one, gj, List.flatMap_append, ← hT0, hT, hij, List.take_length]
          simp [rowT]
        refine AtFn.le ⟨46, tl ([(4, .ptr 1 0 0), (13, .sl 2 0 R.length), (14, I R.length), (15, I j)] ++ gst T), bst X0 ⟨1, R.map rowC⟩ T, 4, ⟨[], some (.mp none)⟩⟩ [.ptr 1 0 0, U 10] ?_ (by intro fo xs ts h; cases h; exact ⟨by simp -dsimp -implicitDefEqProofs (maxSteps := 1000000) only [go_sem, ↓reduceIte, Nat.reduceAdd, Nat.reduceSub, Nat.reduceMul, Nat.reduceLT, Nat.reduceLeDiff, Nat.reduceEqDiff, Nat.reduceBEq, Nat.reduceBNe, Int.reduceToNat, Int.reduceLT, Int.reduceLE, Int.reduceNeg, reduceCtorEq, Int.reduceEq, Int.reduceNe], by simp -dsimp -implicitDefEqProofs (maxSteps := 1000000) only [go_sem, ↓reduceIte, Nat.reduceAdd, Nat.reduceSub, Nat.reduceMul, Nat.reduceLT, Nat.reduceLeDiff, Nat.reduceEqDiff, Nat.reduceBEq, Nat.reduceBNe, Int.reduceToNat, Int.reduceLT, Int.reduceLE, Int.reduceNeg, reduceCtorEq, Int.reduceEq, Int.reduceNe]⟩) ?_
        · simp only [List.cons_append, List.nil_append]
          by_cases hTT : T = []
          · rw [hTT, bst_nil, gst_nil]
            refine Le.tl (Ls := []) [] (by simp -dsimp -implicitDefEqProofs (maxSteps := 1000000) only [go_sem, ↓reduceIte, Nat.reduceAdd, Nat.reduceSub, Nat.reduceMul, Nat.reduceLT, Nat.reduceLeDiff, Nat.reduceEqDiff, Nat.reduceBEq, Nat.reduceBNe, Int.reduceToNat, Int.reduceLT, Int.reduceLE, Int.reduceNeg, reduceCtorEq, Int.reduceEq, Int.reduceNe]) ?_ (by simp) (by simp [sg]) trivial
            simp -dsimp -implicitDefEqProofs (maxSteps := 1000000) only [go_sem, ↓reduceIte, Nat.reduceAdd, Nat.reduceSub, Nat.reduceMul, Nat.reduceLT, Nat.reduceLeDiff, Nat.reduceEqDiff, Nat.reduceBEq, Nat.reduceBNe, Int.reduceToNat, Int.reduceLT, Int.reduceLE, Int.reduceNeg, reduceCtorEq, Int.reduceEq, Int.reduceNe]
            exact ⟨renL_F (by simp -dsimp -implicitDefEqProofs (maxSteps := 1000000) only [go_sem, ↓reduceIte, Nat.reduceAdd, Nat.reduceSub, Nat.reduceMul, Nat.reduceLT, Nat.reduceLeDiff, Nat.reduceEqDiff, Nat.reduceBEq, Nat.reduceBNe, Int.reduceToNat, Int.reduceLT, Int.reduceLE, Int.reduceNeg, reduceCtorEq, Int.reduceEq, Int.reduceNe]), renL_cl2 rfl (clRows _), renL_cl2 rfl hX0c⟩
          · rw [bst_cons _ _ hTT, gst_cons hTT]
            refine Le.tl (Ls := []) [] (by simp -dsimp -implicitDefEqProofs (maxSteps := 1000000) only [go_sem, ↓reduceIte, Nat.reduceAdd, Nat.reduceSub, Nat.reduceMul, Nat.reduceLT, Nat.reduceLeDiff, Nat.reduceEqDiff, Nat.reduceBEq, Nat.reduceBNe, Int.reduceToNat, Int.reduceLT, Int.reduceLE, Int.reduceNeg, reduceCtorEq, Int.reduceEq, Int.reduceNe]) ?_ (by simp) (by simp [sg]) trivial
            simp -dsimp -implicitDefEqProofs (maxSteps := 1000000) only [go_sem, ↓reduceIte, Nat.reduceAdd, Nat.reduceSub, Nat.reduceMul, Nat.reduceLT, Nat.reduceLeDiff, Nat.reduceEqDiff, Nat.reduceBEq, Nat.reduceBNe, Int.reduceToNat, Int.reduceLT, Int.reduceLE, Int.reduceNeg, reduceCtorEq, Int.reduceEq, Int.reduceNe]
            exact ⟨renL_F (by simp -dsimp -implicitDefEqProofs (maxSteps := 1000000) only [go_sem, ↓reduceIte, Nat.reduceAdd, Nat.reduceSub, Nat.reduceMul, Nat.reduceLT, Nat.reduceLeDiff, Nat.reduceEqDiff, Nat.reduceBEq, Nat.reduceBNe, Int.reduceToNat, Int.reduceLT, Int.reduceLE, Int.reduceNeg, reduceCtorEq, Int.reduceEq, Int.reduceNe]), renL_cl2 rfl (clRows _), renL_cl2 rfl hX0c, renL_cl2 rfl (clBy _)⟩
        rw [bst_cons _ _ hTe, gst_cons hTe]
        refine wb65 _ _ _ hTe (by omega) (by simp -dsimp -implicitDefEqProofs (maxSteps := 1000000) only [go_sem, ↓reduceIte, Nat.reduceAdd, Nat.reduceSub, Nat.reduceMul, Nat.reduceLT, Nat.reduceLeDiff, Nat.reduceEqDiff, Nat.reduceBEq, Nat.reduceBNe, Int.reduceToNat, Int.reduceLT, Int.reduceLE, Int.reduceNeg, reduceCtorEq, Int.reduceEq, Int.reduceNe]) (by simp -dsimp -implicitDefEqProofs (maxSteps := 1000000) only [go_sem, ↓reduceIte, Nat.reduceAdd, Nat.reduceSub, Nat.reduceMul, Nat.reduceLT, Nat.reduceLeDiff, Nat.reduceEqDiff, Nat.reduceBEq, Nat.reduceBNe, Int.reduceToNat, Int.reduceLT, Int.reduceLE, Int.reduceNeg, reduceCtorEq, Int.reduceEq, Int.reduceNe]) ?_
        simp -dsimp -implicitDefEqProofs (maxSteps := 1000000) only [go_sem, ↓reduceIte, Nat.reduceAdd, Nat.reduceSub, Nat.reduceMul, Nat.reduceLT, Nat.reduceLeDiff, Nat.reduceEqDiff, Nat.reduceBEq, Nat.reduceBNe, Int.reduceToNat, Int.reduceLT, Int.reduceLE, Int.reduceNeg, reduceCtorEq, Int.reduceEq, Int.reduceNe]
        refine ⟨⟨j + 1, by omega⟩, by show R.length - (j + 1) < R.length - j; omega, ?_⟩
        have hne : T ++ [10] ≠ [] := by simp
        simp only [e1]
        rw [bst_cons _ _ hne, gst_cons hne]
        refine Le.tl (Ls := []) [(3, 5)] (by simp -dsimp -implicitDefEqProofs (maxSteps := 1000000) only [go_sem, ↓reduceIte, Nat.reduceAdd, Nat.reduceSub, Nat.reduceMul, Nat.reduceLT, Nat.reduceLeDiff, Nat.reduceEqDiff, Nat.reduceBEq, Nat.reduceBNe, Int.reduceToNat, Int.reduceLT, Int.reduceLE, Int.reduceNeg, reduceCtorEq, Int.reduceEq, Int.reduceNe, ej]) ?_ (by simp) (by simp [sg]) trivial
        simp -dsimp -implicitDefEqProofs (maxSteps := 1000000) only [go_sem, ↓reduceIte, Nat.reduceAdd, Nat.reduceSub, Nat.reduceMul, Nat.reduceLT, Nat.reduceLeDiff, Nat.reduceEqDiff, Nat.reduceBEq, Nat.reduceBNe, Int.reduceToNat, Int.reduceLT, Int.reduceLE, Int.reduceNeg, reduceCtorEq, Int.reduceEq, Int.reduceNe]
        exact ⟨renL_F (by simp -dsimp -implicitDefEqProofs (maxSteps := 1000000) only [go_sem, ↓reduceIte, Nat.reduceAdd, Nat.reduceSub, Nat.reduceMul, Nat.reduceLT, Nat.reduceLeDiff, Nat.reduceEqDiff, Nat.reduceBEq, Nat.reduceBNe, Int.reduceToNat, Int.reduceLT, Int.reduceLE, Int.reduceNeg, reduceCtorEq, Int.reduceEq, Int.reduceNe]), renL_cl2 rfl (clRows _), renL_cl2 rfl hX0c, renL_cl2 rfl (clBy _)⟩
    · have hjR : j = R.length := by omega
      have hTe : T0 ≠ [] := by
        intro e
        have h0 := congrArg List.length e
        rw [hT0, hjR, List.take_length, flat_len (n := 2 * w + 1) (fun r hr => by rw [rowT_len, hRw r hr]), hRh, List.length_nil, Nat.mul_add, Nat.mul_one] at h0
        omega
      have hT0R : T0 = R.flatMap rowT := by rw [hT0, hjR, List.take_length]
      refine AtFn.le ⟨46, tl ([(4, .ptr 1 0 0)] ++ gst T0), bst X0 ⟨1, R.map rowC⟩ T0, 4, ⟨[], some (.mp none)⟩⟩ [.ptr 1 0 0] ?_ (by intro fo xs ts h; cases h; exact ⟨by simp -dsimp -implicitDefEqProofs (maxSteps := 1000000) only [go_sem, ↓reduceIte, Nat.reduceAdd, Nat.reduceSub, Nat.reduceMul, Nat.reduceLT, Nat.reduceLeDiff, Nat.reduceEqDiff, Nat.reduceBEq, Nat.reduceBNe, Int.reduceToNat, Int.reduceLT, Int.reduceLE, Int.reduceNeg, reduceCtorEq, Int.reduceEq, Int.reduceNe], by simp -dsimp -implicitDefEqProofs (maxSteps := 1000000) only [go_sem, ↓reduceIte, Nat.reduceAdd, Nat.reduceSub, Nat.reduceMul, Nat.reduceLT, Nat.reduceLeDiff, Nat.reduceEqDiff, Nat.reduceBEq, Nat.reduceBNe, Int.reduceToNat, Int.reduceLT, Int.reduceLE, Int.reduceNeg, reduceCtorEq, Int.reduceEq, Int.reduceNe]⟩) ?_
      · simp only [List.cons_append, List.nil_append]
        by_cases hTT : T0 = []
        · rw [hTT, bst_nil, gst_nil]
          refine Le.tl (Ls := []) [] (by simp -dsimp -implicitDefEqProofs (maxSteps := 1000000) only [go_sem, ↓reduceIte, Nat.reduceAdd, Nat.reduceSub, Nat.reduceMul, Nat.reduceLT, Nat.reduceLeDiff, Nat.reduceEqDiff, Nat.reduceBEq, Nat.reduceBNe, Int.reduceToNat, Int.reduceLT, Int.reduceLE, Int.reduceNeg, reduceCtorEq, Int.reduceEq, Int.reduceNe]) ?_ (by simp) (by simp [sg]) trivial
          simp -dsimp -implicitDefEqProofs (maxSteps := 1000000) only [go_sem, ↓reduceIte, Nat.reduceAdd, Nat.reduceSub, Nat.reduceMul, Nat.reduceLT, Nat.reduceLeDiff, Nat.reduceEqDiff, Nat.reduceBEq, Nat.reduceBNe, Int.reduceToNat, Int.reduceLT, Int.reduceLE, Int.reduceNeg, reduceCtorEq, Int.reduceEq, Int.reduceNe]
          exact ⟨renL_F (by simp -dsimp -implicitDefEqProofs (maxSteps := 1000000) only [go_sem, ↓reduceIte, Nat.reduceAdd, Nat.reduceSub, Nat.reduceMul, Nat.reduceLT, Nat.reduceLeDiff, Nat.reduceEqDiff, Nat.reduceBEq, Nat.reduceBNe, Int.reduceToNat, Int.reduceLT, Int.reduceLE, Int.reduceNeg, reduceCtorEq, Int.reduceEq, Int.reduceNe]), renL_cl2 rfl (clRows _), renL_cl2 rfl hX0c⟩
        · rw [bst_cons _ _ hTT, gst_cons hTT]
          refine Le.tl (Ls := []) [] (by simp -dsimp -implicitDefEqProofs (maxSteps := 1000000) only [go_sem, ↓reduceIte, Nat.reduceAdd, Nat.reduceSub, Nat.reduceMul, Nat.reduceLT, Nat.reduceLeDiff, Nat.reduceEqDiff, Nat.reduceBEq, Nat.reduceBNe, Int.reduceToNat, Int.reduceLT, Int.reduceLE, Int.reduceNeg, reduceCtorEq, Int.reduceEq, Int.reduceNe]) ?_ (by simp) (by simp [sg]) trivial
          simp -dsimp -implicitDefEqProofs (maxSteps := 1000000) only [go_sem, ↓reduceIte, Nat.reduceAdd, Nat.reduceSub, Nat.reduceMul, Nat.reduceLT, Nat.reduceLeDiff, Nat.reduceEqDiff, Nat.reduceBEq, Nat.reduceBNe, Int.reduceToNat, Int.reduceLT, Int.reduceLE, Int.reduceNeg, reduceCtorEq, Int.reduceEq, Int.reduceNe]
          exact ⟨renL_F (by simp -dsimp -implicitDefEqProofs (maxSteps := 1000000) only [go_sem, ↓reduceIte, Nat.reduceAdd, Nat.reduceSub, Nat.reduceMul, Nat.reduceLT, Nat.reduceLeDiff, Nat.reduceEqDiff, Nat.reduceBEq, Nat.reduceBNe, Int.reduceToNat, Int.reduceLT, Int.reduceLE, Int.reduceNeg, reduceCtorEq, Int.reduceEq, Int.reduceNe]), renL_cl2 rfl (clRows _), renL_cl2 rfl hX0c, renL_cl2 rfl (clBy _)⟩
      rw [bst_cons _ _ hTe, gst_cons hTe]
      refine str66 _ _ _ hTe (by have := hTxt j; rw [← hT0] at this; omega) (by simp -dsimp -implicitDefEqProofs (maxSteps := 1000000) only [go_sem, ↓reduceIte, Nat.reduceAdd, Nat.reduceSub, Nat.reduceMul, Nat.reduceLT, Nat.reduceLeDiff, Nat.reduceEqDiff, Nat.reduceBEq, Nat.reduceBNe, Int.reduceToNat, Int.reduceLT, Int.reduceLE, Int.reduceNeg, reduceCtorEq, Int.reduceEq, Int.reduceNe]) (by simp -dsimp -implicitDefEqProofs (maxSteps := 1000000) only [go_sem, ↓reduceIte, Nat.reduceAdd, Nat.reduceSub, Nat.reduceMul, Nat.reduceLT, Nat.reduceLeDiff, Nat.reduceEqDiff, Nat.reduceBEq, Nat.reduceBNe, Int.reduceToNat, Int.reduceLT, Int.reduceLE, Int.reduceNeg, reduceCtorEq, Int.reduceEq, Int.reduceNe]) ?_
      simp -dsimp -implicitDefEqProofs (maxSteps := 1000000) only [go_sem, ↓reduceIte, Nat.reduceAdd, Nat.reduceSub, Nat.reduceMul, Nat.reduceLT, Nat.reduceLeDiff, Nat.reduceEqDiff, Nat.reduceBEq, Nat.reduceBNe, Int.reduceToNat, Int.reduceLT, Int.reduceLE, Int.reduceNeg, reduceCtorEq, Int.reduceEq, Int.reduceNe, hT0R]
  · have hc' : vaB r = false := by simpa using hc
    rw [if_neg hc]
    obtain ⟨w, h, p⟩ := r
    refine PFun.introM 400 mixed Tryd.func17 (by kernel_rfl) rfl (by first | exact .v _ | (simp [Cl_v, Cl_t, Cl_g, Cl_fn, Cl_rp, Cl_ro]; done) | (simp [Cl_v, Cl_t, Cl_g, Cl_fn, Cl_rp, Cl_ro, or_imp, forall_and]; done) | (split <;> simp [Cl_v, Cl_t, Cl_g, Cl_fn, Cl_rp, Cl_ro])) (Nat.le_of_ble_eq_true rfl) ?_; rw [Tryd.ntmps17, Tryd.results17]
    simp -dsimp -implicitDefEqProofs (maxSteps := 1000000) only [go_sem, ↓reduceIte, Nat.reduceAdd, Nat.reduceSub, Nat.reduceMul, Nat.reduceLT, Nat.reduceLeDiff, Nat.reduceEqDiff, Nat.reduceBEq, Nat.reduceBNe, Int.reduceToNat, Int.reduceLT, Int.reduceLE, Int.reduceNeg, reduceCtorEq, Int.reduceEq, Int.reduceNe]
    refine AtFn.pure0 hv ?_
    simp -dsimp -implicitDefEqProofs (maxSteps := 1000000) only [go_sem, ↓reduceIte, Nat.reduceAdd, Nat.reduceSub, Nat.reduceMul, Nat.reduceLT, Nat.reduceLeDiff, Nat.reduceEqDiff, Nat.reduceBEq, Nat.reduceBNe, Int.reduceToNat, Int.reduceLT, Int.reduceLE, Int.reduceNeg, reduceCtorEq, Int.reduceEq, Int.reduceNe, hc']
end

section
def splitA : List UInt8 → List (List UInt8)
  | [] => [[]]
  | c :: l => if c = 10 then [10] :: splitA l else match splitA l with | [] => [[c]] | p :: ps => (c :: p) :: ps
theorem splitA_ne (l : List UInt8) : splitA l ≠ [] := by
  cases l with
  | nil => simp [splitA]
  | cons c l => unfold splitA; split; (· simp); split <;> simp
theorem splitA_none : ∀ {l : List UInt8}, (10 : UInt8) ∉ l → splitA l = [l]
  | [], _ => rfl
  | c :: l, h => by
    simp only [List.mem_cons, not_or] at h
    unfold splitA
    rw [if_neg (fun e => h.1 e.symm), splitA_none h.2]
theorem splitA_some : ∀ {u : List UInt8} (v : List UInt8), (10 : UInt8) ∉ u → splitA (u ++ 10 :: v) = (u ++ [10]) :: splitA v
  | [], v, _ => by
    show splitA (10 :: v) = _
    rw [splitA, if_pos rfl]; rfl
  | c :: u, v, h => by
    simp only [List.mem_cons, not_or] at h
    show splitA (c :: (u ++ 10 :: v)) = _
    rw [splitA, if_neg (fun e => h.1 e.symm), splitA_some v h.2]
    rfl
theorem splitA_len : ∀ (l : List UInt8), (splitA l).length = l.count 10 + 1
  | [] => rfl
  | c :: l => by
    have ih := splitA_len l
    unfold splitA
    split
    · rename_i h; subst h; simp [ih]
    · rename_i h
      rw [List.count_cons_of_ne (by exact h)]
      split
      · rename_i e; rw [e] at ih; simp at ih
      · rename_i p ps e; rw [e] at ih; simpa using ih
/-- The first newline. -/
theorem ixB_ge (c : UInt8) : ∀ l : List UInt8, -1 ≤ Lib.indexByte l c
  | [] => Int.le_refl _
  | b :: l => by
    have := ixB_ge c l
    unfold Lib.indexByte
    split
    · omega
    · split <;> omega
theorem ixB_none : ∀ {l : List UInt8} {c : UInt8}, Lib.indexByte l c < 0 → c ∉ l
  | [], _, _ => by simp
  | b :: l, c, h => by
    have hge := ixB_ge c l
    by_cases hb : b = c
    · subst hb; simp [Lib.indexByte] at h
    · unfold Lib.indexByte at h
      rw [if_neg (by simpa using hb)] at h
      by_cases he : Lib.indexByte l c = -1
      · have := ixB_none (l := l) (c := c) (by omega)
        simp only [List.mem_cons, not_or]
        exact ⟨fun e => hb e.symm, this⟩
      · rw [if_neg (by simpa using he)] at h; omega
theorem ixB_some : ∀ {l : List UInt8} {c : UInt8}, 0 ≤ Lib.indexByte l c → ∃ u v, l = u ++ c :: v ∧ c ∉ u ∧ Lib.indexByte l c = u.length
  | [], _, h => by simp [Lib.indexByte] at h
  | b :: l, c, h => by
    by_cases hb : b = c
    · subst hb
      exact ⟨[], l, rfl, by simp, by simp [Lib.indexByte]⟩
    · unfold Lib.indexByte at h ⊢
      rw [if_neg (by simpa using hb)] at h ⊢
      by_cases he : Lib.indexByte l c = -1
      · rw [if_pos (by simpa using he)] at h; omega
      · rw [if_neg (by simpa using he)] at h ⊢
        have := ixB_ge c l
        obtain ⟨u, v, rfl, h2, h3⟩ := ixB_some (l := l) (c := c) (by omega)
        exact ⟨b :: u, v, rfl, by simp [h2]; exact fun e => hb e.symm, by rw [h3]; simp⟩
def trimN (l : List UInt8) : List UInt8 := if l.getLast? = some 10 then l.dropLast else l
/-- What a hexadecimal digit means. -/
def ixD (c : UInt8) : Int := Lib.indexByte [48, 49, 50, 51, 52, 53, 54, 55, 56, 57, 97, 98, 99, 100, 101, 102] c
def inkP : List UInt8 → Int × Bool
  | [a, b] => if a = 46 ∧ b = 46 then (0, true) else if ixD a < 0 ∨ ixD b < 0 then (0, false) else (16 * ixD a + ixD b, true)
  | [a] => if ixD a < 0 then (0, false) else (ixD a, false)
  | _ => (0, false)
theorem ixD_bd (c : UInt8) : -1 ≤ ixD c ∧ ixD c ≤ 15 := by
  have : ∀ n < 256, -1 ≤ ixD (UInt8.ofNat n) ∧ ixD (UInt8.ofNat n) ≤ 15 := by decide +kernel
  have h := this c.toNat c.toNat_lt
  simpa using h
theorem inkP_bd {l : List UInt8} : 0 ≤ (inkP l).1 ∧ (inkP l).1 ≤ 255 := by
  unfold inkP
  split
  · rename_i a b
    have h1 := ixD_bd a
    have h2 := ixD_bd b
    split
    · simp
    · split
      · simp
      · simp only; omega
  · rename_i a
    have h1 := ixD_bd a
    split
    · simp
    · simp only; omega
  · simp
def goPairs : List (List UInt8) → List Int → Option (List Int)
  | [], p => some p
  | c :: cs, p => if (inkP c).2 then goPairs cs (p ++ [(inkP c).1]) else none
def goLines : List (List UInt8) → Int → List Int → Option (Int × List Int)
  | [], w, p => some (w, p)
  | l :: ls, w, p => match goPairs (chunkL 2 (trimN l)) p with
    | none => none
    | some p' => goLines ls (if w = 0 then (p'.length : Int) else w) p'
theorem chunkL_map {α β : Type} (f : α → β) (n : Nat) (l : List α) : chunkL n (l.map f) = (chunkL n l).map (fun c => c.map f) := by
  unfold chunkL
  rw [List.length_map, List.map_map]
  refine List.map_congr_left fun i _ => ?_
  simp [List.map_take, List.map_drop]
end

section
set_option maxRecDepth 20000
theorem ba_loop (s : ByteArray) : ∀ (k i : Nat) (r : List UInt8), s.size - i = k → ByteArray.toList.loop s i r = r.reverse ++ s.data.toList.drop i
  | 0, i, r, h => by
    rw [ByteArray.toList.loop, if_neg (by omega), List.drop_eq_nil_of_le (by rw [Array.length_toList]; show s.size ≤ i; omega), List.append_nil]
  | k + 1, i, r, h => by
    have hi : i < s.size := by omega
    rw [ByteArray.toList.loop, if_pos hi, ba_loop s k (i + 1) _ (by omega)]
    have hi2 : i < s.data.toList.length := by rw [Array.length_toList]; exact hi
    rw [List.drop_eq_getElem_cons hi2, List.reverse_cons, List.append_assoc]
    have : s.get! i = s.data.toList[i] := by
      show s.data[i]! = _
      rw [getElem!_pos s.data i hi]; simp
    rw [this]; rfl
theorem ba_toList (s : ByteArray) : s.toList = s.data.toList := by
  unfold ByteArray.toList
  rw [ba_loop s _ 0 [] rfl]; simp
theorem ext_str (l : List UInt8) (a b : Nat) : (⟨l.toArray⟩ : ByteArray).extract a b = ⟨((l.take b).drop a).toArray⟩ := by
  apply ByteArray.ext
  simp [ByteArray.data_extract]
  rw [List.drop_take]
theorem size_str (l : List UInt8) : (⟨l.toArray⟩ : ByteArray).size = l.length := by
  show l.toArray.size = _
  simp
theorem get_str (l : List UInt8) (i : Nat) : (⟨l.toArray⟩ : ByteArray)[i]? = l[i]? := by
  by_cases h : i < l.length
  · rw [List.getElem?_eq_getElem h]
    have h2 : i < (⟨l.toArray⟩ : ByteArray).size := by rw [size_str]; exact h
    rw [getElem?_pos (⟨l.toArray⟩ : ByteArray) i h2]
    rfl
  · have h2 : ¬ i < (⟨l.toArray⟩ : ByteArray).size := by rw [size_str]; exact h
    rw [getElem?_neg (⟨l.toArray⟩ : ByteArray) i h2, List.getElem?_eq_none (by omega)]
theorem ib111 (l : List UInt8) (c : Int) : PFun Tryd.prog 111 [Str l, U c] (I (Lib.indexByte l c.toNat.toUInt8)) := by
  refine PFun.intro 400 mixed Tryd.func111 (by kernel_rfl) rfl (by first | exact .v _ | (simp [Cl_v, Cl_t, Cl_g, Cl_fn, Cl_rp, Cl_ro]; done) | (simp [Cl_v, Cl_t, Cl_g, Cl_fn, Cl_rp, Cl_ro, or_imp, forall_and]; done) | (split <;> simp [Cl_v, Cl_t, Cl_g, Cl_fn, Cl_rp, Cl_ro])) (Nat.le_of_ble_eq_true rfl) ?_; rw [Tryd.ntmps111, Tryd.results111]
  simp -dsimp -implicitDefEqProofs (maxSteps := 1000000) only [go_sem, ↓reduceIte, Nat.reduceAdd, Nat.reduceSub, Nat.reduceMul, Nat.reduceLT, Nat.reduceLeDiff, Nat.reduceEqDiff, Nat.reduceBEq, Nat.reduceBNe, Int.reduceToNat, Int.reduceLT, Int.reduceLE, Int.reduceNeg, reduceCtorEq, Int.reduceEq, Int.reduceNe]
  refine AtFn.ext (e := Extern.BytealgIndexByte.indexByte) (us := [.string ⟨l.toArray⟩, .int .u8 c]) Tryd.func114 (by kernel_rfl) (by kernel_rfl) (by kernel_rfl) (by kernel_rfl) rfl (fun w => Lib.run_indexByteString _ c w) ?_
  simp -dsimp -implicitDefEqProofs (maxSteps := 1000000) only [go_sem, ↓reduceIte, Nat.reduceAdd, Nat.reduceSub, Nat.reduceMul, Nat.reduceLT, Nat.reduceLeDiff, Nat.reduceEqDiff, Nat.reduceBEq, Nat.reduceBNe, Int.reduceToNat, Int.reduceLT, Int.reduceLE, Int.reduceNeg, reduceCtorEq, Int.reduceEq, Int.reduceNe]
theorem ib99 (l : List UInt8) (c : Int) : PFun Tryd.prog 99 [Str l, U c] (I (Lib.indexByte l c.toNat.toUInt8)) := by
  refine PFun.intro 400 mixed Tryd.func99 (by kernel_rfl) rfl (by first | exact .v _ | (simp [Cl_v, Cl_t, Cl_g, Cl_fn, Cl_rp, Cl_ro]; done) | (simp [Cl_v, Cl_t, Cl_g, Cl_fn, Cl_rp, Cl_ro, or_imp, forall_and]; done) | (split <;> simp [Cl_v, Cl_t, Cl_g, Cl_fn, Cl_rp, Cl_ro])) (Nat.le_of_ble_eq_true rfl) ?_; rw [Tryd.ntmps99, Tryd.results99]
  simp -dsimp -implicitDefEqProofs (maxSteps := 1000000) only [go_sem, ↓reduceIte, Nat.reduceAdd, Nat.reduceSub, Nat.reduceMul, Nat.reduceLT, Nat.reduceLeDiff, Nat.reduceEqDiff, Nat.reduceBEq, Nat.reduceBNe, Int.reduceToNat, Int.reduceLT, Int.reduceLE, Int.reduceNeg, reduceCtorEq, Int.reduceEq, Int.reduceNe]
  refine AtFn.pure0 (ib111 l c) ?_
  simp -dsimp -implicitDefEqProofs (maxSteps := 1000000) only [go_sem, ↓reduceIte, Nat.reduceAdd, Nat.reduceSub, Nat.reduceMul, Nat.reduceLT, Nat.reduceLeDiff, Nat.reduceEqDiff, Nat.reduceBEq, Nat.reduceBNe, Int.reduceToNat, Int.reduceLT, Int.reduceLE, Int.reduceNeg, reduceCtorEq, Int.reduceEq, Int.reduceNe]
theorem str_eq (a b : List UInt8) : (((⟨a.toArray⟩ : ByteArray).toList == (⟨b.toArray⟩ : ByteArray).toList) = true) ↔ a = b := by
  rw [ba_toList, ba_toList, beq_iff_eq]
theorem str_eqF (a b : List UInt8) : (((⟨a.toArray⟩ : ByteArray).toList == (⟨b.toArray⟩ : ByteArray).toList) = false) ↔ a ≠ b := by
  rw [← Bool.not_eq_true, str_eq]
theorem ix110 (l : List UInt8) : PFun Tryd.prog 110 [Str l, Str [10]] (I (Lib.indexByte l 10)) := by
  by_cases hl : [10] = l
  · have hb : (({ data := #[10] } : ByteArray).toList == (⟨l.toArray⟩ : ByteArray).toList) = true := (str_eq [10] l).2 hl
    refine PFun.intro 400 mixed Tryd.func110 (by kernel_rfl) rfl (by first | exact .v _ | (simp [Cl_v, Cl_t, Cl_g, Cl_fn, Cl_rp, Cl_ro]; done) | (simp [Cl_v, Cl_t, Cl_g, Cl_fn, Cl_rp, Cl_ro, or_imp, forall_and]; done) | (split <;> simp [Cl_v, Cl_t, Cl_g, Cl_fn, Cl_rp, Cl_ro])) (Nat.le_of_ble_eq_true rfl) ?_; rw [Tryd.ntmps110, Tryd.results110]
    simp -dsimp -implicitDefEqProofs (maxSteps := 1000000) only [go_sem, ↓reduceIte, Nat.reduceAdd, Nat.reduceSub, Nat.reduceMul, Nat.reduceLT, Nat.reduceLeDiff, Nat.reduceEqDiff, Nat.reduceBEq, Nat.reduceBNe, Int.reduceToNat, Int.reduceLT, Int.reduceLE, Int.reduceNeg, reduceCtorEq, Int.reduceEq, Int.reduceNe, size_str, get_str, hb]
    rw [← hl]; rfl
  · have hb : (({ data := #[10] } : ByteArray).toList == (⟨l.toArray⟩ : ByteArray).toList) = false := (str_eqF [10] l).2 hl
    refine PFun.intro 400 mixed Tryd.func110 (by kernel_rfl) rfl (by first | exact .v _ | (simp [Cl_v, Cl_t, Cl_g, Cl_fn, Cl_rp, Cl_ro]; done) | (simp [Cl_v, Cl_t, Cl_g, Cl_fn, Cl_rp, Cl_ro, or_imp, forall_and]; done) | (split <;> simp [Cl_v, Cl_t, Cl_g, Cl_fn, Cl_rp, Cl_ro])) (Nat.le_of_ble_eq_true rfl) ?_; rw [Tryd.ntmps110, Tryd.results110]
    simp -dsimp -implicitDefEqProofs (maxSteps := 1000000) only [go_sem, ↓reduceIte, Nat.reduceAdd, Nat.reduceSub, Nat.reduceMul, Nat.reduceLT, Nat.reduceLeDiff, Nat.reduceEqDiff, Nat.reduceBEq, Nat.reduceBNe, Int.reduceToNat, Int.reduceLT, Int.reduceLE, Int.reduceNeg, reduceCtorEq, Int.reduceEq, Int.reduceNe, size_str, get_str, hb]
    refine AtFn.pure0 (ib111 l ((UInt8.toNat 10 : Nat) : Int)) ?_
    simp -dsimp -implicitDefEqProofs (maxSteps := 1000000) only [go_sem, ↓reduceIte, Nat.reduceAdd, Nat.reduceSub, Nat.reduceMul, Nat.reduceLT, Nat.reduceLeDiff, Nat.reduceEqDiff, Nat.reduceBEq, Nat.reduceBNe, Int.reduceToNat, Int.reduceLT, Int.reduceLE, Int.reduceNeg, reduceCtorEq, Int.reduceEq, Int.reduceNe]
    rfl
theorem ix97 (l : List UInt8) : PFun Tryd.prog 97 [Str l, Str [10]] (I (Lib.indexByte l 10)) := by
  refine PFun.intro 400 mixed Tryd.func97 (by kernel_rfl) rfl (by first | exact .v _ | (simp [Cl_v, Cl_t, Cl_g, Cl_fn, Cl_rp, Cl_ro]; done) | (simp [Cl_v, Cl_t, Cl_g, Cl_fn, Cl_rp, Cl_ro, or_imp, forall_and]; done) | (split <;> simp [Cl_v, Cl_t, Cl_g, Cl_fn, Cl_rp, Cl_ro])) (Nat.le_of_ble_eq_true rfl) ?_; rw [Tryd.ntmps97, Tryd.results97]
  simp -dsimp -implicitDefEqProofs (maxSteps := 1000000) only [go_sem, ↓reduceIte, Nat.reduceAdd, Nat.reduceSub, Nat.reduceMul, Nat.reduceLT, Nat.reduceLeDiff, Nat.reduceEqDiff, Nat.reduceBEq, Nat.reduceBNe, Int.reduceToNat, Int.reduceLT, Int.reduceLE, Int.reduceNeg, reduceCtorEq, Int.reduceEq, Int.reduceNe]
  refine AtFn.pure0 (ix110 l) ?_
  simp -dsimp -implicitDefEqProofs (maxSteps := 1000000) only [go_sem, ↓reduceIte, Nat.reduceAdd, Nat.reduceSub, Nat.reduceMul, Nat.reduceLT, Nat.reduceLeDiff, Nat.reduceEqDiff, Nat.reduceBEq, Nat.reduceBNe, Int.reduceToNat, Int.reduceLT, Int.reduceLE, Int.reduceNeg, reduceCtorEq, Int.reduceEq, Int.reduceNe]
theorem cnt96 (l : List UInt8) : PFun Tryd.prog 96 [Str l, Str [10]] (I (Lib.countByte l 10)) := by
  refine PFun.intro 400 mixed Tryd.func96 (by kernel_rfl) rfl (by first | exact .v _ | (simp [Cl_v, Cl_t, Cl_g, Cl_fn, Cl_rp, Cl_ro]; done) | (simp [Cl_v, Cl_t, Cl_g, Cl_fn, Cl_rp, Cl_ro, or_imp, forall_and]; done) | (split <;> simp [Cl_v, Cl_t, Cl_g, Cl_fn, Cl_rp, Cl_ro])) (Nat.le_of_ble_eq_true rfl) ?_; rw [Tryd.ntmps96, Tryd.results96]
  simp -dsimp -implicitDefEqProofs (maxSteps := 1000000) only [go_sem, ↓reduceIte, Nat.reduceAdd, Nat.reduceSub, Nat.reduceMul, Nat.reduceLT, Nat.reduceLeDiff, Nat.reduceEqDiff, Nat.reduceBEq, Nat.reduceBNe, Int.reduceToNat, Int.reduceLT, Int.reduceLE, Int.reduceNeg, reduceCtorEq, Int.reduceEq, Int.reduceNe, size_str, get_str]
  refine AtFn.ext (e := Extern.BytealgCount.count) (us := [.string ⟨l.toArray⟩, .int .u8 10]) Tryd.func109 (by kernel_rfl) (by kernel_rfl) (by kernel_rfl) (by kernel_rfl) rfl (fun w => Lib.run_countString _ 10 w) ?_
  simp -dsimp -implicitDefEqProofs (maxSteps := 1000000) only [go_sem, ↓reduceIte, Nat.reduceAdd, Nat.reduceSub, Nat.reduceMul, Nat.reduceLT, Nat.reduceLeDiff, Nat.reduceEqDiff, Nat.reduceBEq, Nat.reduceBNe, Int.reduceToNat, Int.reduceLT, Int.reduceLE, Int.reduceNeg, reduceCtorEq, Int.reduceEq, Int.reduceNe]
  rfl
theorem last_drop {l : List UInt8} (h0 : l ≠ []) : l.drop (l.length - 1) = [10] ↔ l.getLast? = some 10 := by
  have hpos : 1 ≤ l.length := List.length_pos_iff.2 h0
  have hlt : l.length - 1 < l.length := by omega
  rw [List.getLast?_eq_getElem?, List.getElem?_eq_getElem hlt, List.drop_eq_getElem_cons hlt, List.drop_eq_nil_of_le (by omega)]
  simp
theorem suf98 (l : List UInt8) (hl : l.length ≤ 1073741824) : PFun Tryd.prog 98 [Str l, Str [10]] (Bo (decide (l.getLast? = some 10))) := by
  by_cases h0 : l = []
  · subst h0
    refine PFun.intro 400 mixed Tryd.func98 (by kernel_rfl) rfl (by first | exact .v _ | (simp [Cl_v, Cl_t, Cl_g, Cl_fn, Cl_rp, Cl_ro]; done) | (simp [Cl_v, Cl_t, Cl_g, Cl_fn, Cl_rp, Cl_ro, or_imp, forall_and]; done) | (split <;> simp [Cl_v, Cl_t, Cl_g, Cl_fn, Cl_rp, Cl_ro])) (Nat.le_of_ble_eq_true rfl) ?_; rw [Tryd.ntmps98, Tryd.results98]
    simp -dsimp -implicitDefEqProofs (maxSteps := 1000000) only [go_sem, ↓reduceIte, Nat.reduceAdd, Nat.reduceSub, Nat.reduceMul, Nat.reduceLT, Nat.reduceLeDiff, Nat.reduceEqDiff, Nat.reduceBEq, Nat.reduceBNe, Int.reduceToNat, Int.reduceLT, Int.reduceLE, Int.reduceNeg, reduceCtorEq, Int.reduceEq, Int.reduceNe, size_str]
    rfl
  · have hpos : 1 ≤ l.length := List.length_pos_iff.2 h0
    have e1 := wrS1 (a := l.length) hpos (by omega)
    have c1 : (1 : Int) ≤ (l.length : Int) := by omega
    have c2 : l.length - 1 ≤ l.length := by omega
    have hb : (({ data := (List.drop (l.length - 1) (List.take l.length l)).toArray } : ByteArray).toList == ({ data := #[10] } : ByteArray).toList) = decide (l.getLast? = some 10) := by
      rw [Bool.eq_iff_iff, decide_eq_true_eq, ← last_drop h0, List.take_length]
      exact str_eq _ [10]
    refine PFun.intro 400 mixed Tryd.func98 (by kernel_rfl) rfl (by first | exact .v _ | (simp [Cl_v, Cl_t, Cl_g, Cl_fn, Cl_rp, Cl_ro]; done) | (simp [Cl_v, Cl_t, Cl_g, Cl_fn, Cl_rp, Cl_ro, or_imp, forall_and]; done) | (split <;> simp [Cl_v, Cl_t, Cl_g, Cl_fn, Cl_rp, Cl_ro])) (Nat.le_of_ble_eq_true rfl) ?_; rw [Tryd.ntmps98, Tryd.results98]
    simp -dsimp -implicitDefEqProofs (maxSteps := 1000000) only [go_sem, ↓reduceIte, Nat.reduceAdd, Nat.reduceSub, Nat.reduceMul, Nat.reduceLT, Nat.reduceLeDiff, Nat.reduceEqDiff, Nat.reduceBEq, Nat.reduceBNe, Int.reduceToNat, Int.reduceLT, Int.reduceLE, Int.reduceNeg, reduceCtorEq, Int.reduceEq, Int.reduceNe, size_str, e1, c1, c2, ext_str, Int.natCast_nonneg, Int.toNat_natCast, Nat.le_refl, hb]
theorem trim57 (l : List UInt8) (hl : l.length ≤ 1073741824) : PFun Tryd.prog 57 [Str l, Str [10]] (Str (trimN l)) := by
  have h87 : PFun Tryd.prog 87 [Str l, Str [10]] (Str (trimN l)) := by
    unfold trimN
    by_cases h : l.getLast? = some 10
    · rw [if_pos h]
      have h0 : l ≠ [] := by intro e; subst e; simp at h
      have hpos : 1 ≤ l.length := List.length_pos_iff.2 h0
      have e1 := wrS1 (a := l.length) hpos (by omega)
      have c2 : l.length - 1 ≤ l.length := by omega
      refine PFun.intro 400 mixed Tryd.func87 (by kernel_rfl) rfl (by first | exact .v _ | (simp [Cl_v, Cl_t, Cl_g, Cl_fn, Cl_rp, Cl_ro]; done) | (simp [Cl_v, Cl_t, Cl_g, Cl_fn, Cl_rp, Cl_ro, or_imp, forall_and]; done) | (split <;> simp [Cl_v, Cl_t, Cl_g, Cl_fn, Cl_rp, Cl_ro])) (Nat.le_of_ble_eq_true rfl) ?_; rw [Tryd.ntmps87, Tryd.results87]
      simp -dsimp -implicitDefEqProofs (maxSteps := 1000000) only [go_sem, ↓reduceIte, Nat.reduceAdd, Nat.reduceSub, Nat.reduceMul, Nat.reduceLT, Nat.reduceLeDiff, Nat.reduceEqDiff, Nat.reduceBEq, Nat.reduceBNe, Int.reduceToNat, Int.reduceLT, Int.reduceLE, Int.reduceNeg, reduceCtorEq, Int.reduceEq, Int.reduceNe]
      refine AtFn.pure0 (suf98 l hl) ?_
      simp -dsimp -implicitDefEqProofs (maxSteps := 1000000) only [go_sem, ↓reduceIte, Nat.reduceAdd, Nat.reduceSub, Nat.reduceMul, Nat.reduceLT, Nat.reduceLeDiff, Nat.reduceEqDiff, Nat.reduceBEq, Nat.reduceBNe, Int.reduceToNat, Int.reduceLT, Int.reduceLE, Int.reduceNeg, reduceCtorEq, Int.reduceEq, Int.reduceNe, h, size_str, e1, c2, ext_str, Int.natCast_nonneg, Int.toNat_natCast, Nat.le_refl, Nat.zero_le, List.dropLast_eq_take]
    · rw [if_neg h]
      refine PFun.intro 400 mixed Tryd.func87 (by kernel_rfl) rfl (by first | exact .v _ | (simp [Cl_v, Cl_t, Cl_g, Cl_fn, Cl_rp, Cl_ro]; done) | (simp [Cl_v, Cl_t, Cl_g, Cl_fn, Cl_rp, Cl_ro, or_imp, forall_and]; done) | (split <;> simp [Cl_v, Cl_t, Cl_g, Cl_fn, Cl_rp, Cl_ro])) (Nat.le_of_ble_eq_true rfl) ?_; rw [Tryd.ntmps87, Tryd.results87]
      simp -dsimp -implicitDefEqProofs (maxSteps := 1000000) only [go_sem, ↓reduceIte, Nat.reduceAdd, Nat.reduceSub, Nat.reduceMul, Nat.reduceLT, Nat.reduceLeDiff, Nat.reduceEqDiff, Nat.reduceBEq, Nat.reduceBNe, Int.reduceToNat, Int.reduceLT, Int.reduceLE, Int.reduceNeg, reduceCtorEq, Int.reduceEq, Int.reduceNe]
      refine AtFn.pure0 (suf98 l hl) ?_
      simp -dsimp -implicitDefEqProofs (maxSteps := 1000000) only [go_sem, ↓reduceIte, Nat.reduceAdd, Nat.reduceSub, Nat.reduceMul, Nat.reduceLT, Nat.reduceLeDiff, Nat.reduceEqDiff, Nat.reduceBEq, Nat.reduceBNe, Int.reduceToNat, Int.reduceLT, Int.reduceLE, Int.reduceNeg, reduceCtorEq, Int.reduceEq, Int.reduceNe, h]
  refine PFun.intro 400 mixed Tryd.func57 (by kernel_rfl) rfl (by first | exact .v _ | (simp [Cl_v, Cl_t, Cl_g, Cl_fn, Cl_rp, Cl_ro]; done) | (simp [Cl_v, Cl_t, Cl_g, Cl_fn, Cl_rp, Cl_ro, or_imp, forall_and]; done) | (split <;> simp [Cl_v, Cl_t, Cl_g, Cl_fn, Cl_rp, Cl_ro])) (Nat.le_of_ble_eq_true rfl) ?_; rw [Tryd.ntmps57, Tryd.results57]
  simp -dsimp -implicitDefEqProofs (maxSteps := 1000000) only [go_sem, ↓reduceIte, Nat.reduceAdd, Nat.reduceSub, Nat.reduceMul, Nat.reduceLT, Nat.reduceLeDiff, Nat.reduceEqDiff, Nat.reduceBEq, Nat.reduceBNe, Int.reduceToNat, Int.reduceLT, Int.reduceLE, Int.reduceNeg, reduceCtorEq, Int.reduceEq, Int.reduceNe]
  refine AtFn.pure0 h87 ?_
  simp -dsimp -implicitDefEqProofs (maxSteps := 1000000) only [go_sem, ↓reduceIte, Nat.reduceAdd, Nat.reduceSub, Nat.reduceMul, Nat.reduceLT, Nat.reduceLeDiff, Nat.reduceEqDiff, Nat.reduceBEq, Nat.reduceBNe, Int.reduceToNat, Int.reduceLT, Int.reduceLE, Int.reduceNeg, reduceCtorEq, Int.reduceEq, Int.reduceNe]
/-- The split's state: what is done, what is left. -/
abbrev strC (l : List UInt8) : List AV := [Str l]
theorem clStr (L : List (List UInt8)) : ∀ c ∈ L.map strC, ∀ s ∈ c, Cl s := fun c hc s hs => by
  obtain ⟨r, _, rfl⟩ := List.mem_map.1 hc
  rw [List.mem_singleton.1 hs]; exact .v _
theorem rep_get (D : List (List UInt8)) (k : Nat) : (List.map strC (D ++ List.replicate (k + 1) []))[D.length]? = some (strC []) := by
  rw [List.getElem?_map, List.getElem?_append_right (Nat.le_refl _), Nat.sub_self, List.getElem?_replicate, if_pos (by omega)]; rfl
theorem rep_set (D : List (List UInt8)) (k : Nat) (x : List UInt8) : (List.map strC (D ++ List.replicate (k + 1) [])).set D.length [Str x] = List.map strC (D ++ [x] ++ List.replicate k []) := by
  show (List.map strC (D ++ List.replicate (k + 1) [])).set D.length (strC x) = _
  rw [← List.map_set (f := strC)]
  congr 1
  rw [List.set_append_right _ _ (Nat.le_refl _), Nat.sub_self, List.replicate_succ, List.set_cons_zero]
  simp
theorem split85 (l : List UInt8) (hl : l.length ≤ 1073741824) : RFun Tryd.prog 85 [Str l, Str [10], I 1, I (-1)] 1 ((splitA l).map strC) (.sl 0 0 (splitA l).length) := by
  have hcnt : Lib.countByte l 10 = l.count 10 := rfl
  have hcl : l.count 10 ≤ l.length := List.count_le_length
  have e1 := wrA1 (a := l.count 10) (by omega)
  have e2 := wrA1 (a := l.length) (by omega)
  have e3 : min ((l.count 10 + 1 : Nat) : Int) ((l.length + 1 : Nat) : Int) = ((l.count 10 + 1 : Nat) : Int) := by omega
  have e4 : ((l.count 10 + 1 : Nat) : Int) ≤ 274877906944 := by omega
  have e5 := wrS1 (a := l.count 10 + 1) (by omega) (by omega)
  have hne : (({ data := #[10] } : ByteArray).toList == ({ data := #[] } : ByteArray).toList) = false := (str_eqF [10] []).2 (by simp)
  obtain ⟨c, hc⟩ : ∃ c, c = l.count 10 := ⟨_, rfl⟩
  rw [← hc] at hcnt hcl e1 e3 e4 e5
  rw [Nat.add_sub_cancel] at e5
  have hcc := cnt96 l
  rw [hcnt] at hcc
  refine RFun.intro 400 0 mixed Tryd.func85 (by kernel_rfl) rfl (clStr _) (Nat.le_of_ble_eq_true rfl) ?_; rw [Tryd.ntmps85, Tryd.results85]
  simp -dsimp -implicitDefEqProofs (maxSteps := 1000000) only [go_sem, ↓reduceIte, Nat.reduceAdd, Nat.reduceSub, Nat.reduceMul, Nat.reduceLT, Nat.reduceLeDiff, Nat.reduceEqDiff, Nat.reduceBEq, Nat.reduceBNe, Int.reduceToNat, Int.reduceLT, Int.reduceLE, Int.reduceNeg, reduceCtorEq, Int.reduceEq, Int.reduceNe, hne]
  refine AtFn.pure0 hcc ?_
  simp -dsimp -implicitDefEqProofs (maxSteps := 1000000) only [go_sem, ↓reduceIte, Nat.reduceAdd, Nat.reduceSub, Nat.reduceMul, Nat.reduceLT, Nat.reduceLeDiff, Nat.reduceEqDiff, Nat.reduceBEq, Nat.reduceBNe, Int.reduceToNat, Int.reduceLT, Int.reduceLE, Int.reduceNeg, reduceCtorEq, Int.reduceEq, Int.reduceNe, e1, e2, e3, e4, e5, size_str, Int.natCast_nonneg, Int.le_refl, Int.toNat_natCast, List.length_replicate]
  refine ⟨{p : List (List UInt8) × List UInt8 // splitA l = p.1 ++ splitA p.2 ∧ p.1.length + p.2.count 10 = c ∧ p.2.length ≤ l.length}, fun p => ⟨66, tl [(0, Str p.1.2), (1, Str [10]), (2, I 1), (3, I c), (9, .sl 0 0 (c + 1)), (10, I p.1.1.length)], [(0, ⟨1, (p.1.1 ++ List.replicate (c + 1 - p.1.1.length) []).map strC⟩)], 1, .nil⟩, fun p => p.1.2.length,
    ⟨⟨([], l), by simp, by simp [hc], Nat.le_refl _⟩, Le.tl (Ls := []) (y := none) [] ?_ ?_ (by simp) (by simp [sg]) trivial⟩, fun p => ?_⟩
  · simp -dsimp -implicitDefEqProofs (maxSteps := 1000000) only [go_sem, ↓reduceIte, Nat.reduceAdd, Nat.reduceSub, Nat.reduceMul, Nat.reduceLT, Nat.reduceLeDiff, Nat.reduceEqDiff, Nat.reduceBEq, Nat.reduceBNe, Int.reduceToNat, Int.reduceLT, Int.reduceLE, Int.reduceNeg, reduceCtorEq, Int.reduceEq, Int.reduceNe]
  · simp -dsimp -implicitDefEqProofs (maxSteps := 1000000) only [go_sem, ↓reduceIte, Nat.reduceAdd, Nat.reduceSub, Nat.reduceMul, Nat.reduceLT, Nat.reduceLeDiff, Nat.reduceEqDiff, Nat.reduceBEq, Nat.reduceBNe, Int.reduceToNat, Int.reduceLT, Int.reduceLE, Int.reduceNeg, reduceCtorEq, Int.reduceEq, Int.reduceNe]
    exact renL_cl2 (by rw [List.map_replicate]; rfl) (clStr _)
  obtain ⟨⟨D, v⟩, h1, h2, h3⟩ := p
  simp only at h1 h2 h3
  simp -dsimp -implicitDefEqProofs (maxSteps := 1000000) only [go_sem, ↓reduceIte, Nat.reduceAdd, Nat.reduceSub, Nat.reduceMul, Nat.reduceLT, Nat.reduceLeDiff, Nat.reduceEqDiff, Nat.reduceBEq, Nat.reduceBNe, Int.reduceToNat, Int.reduceLT, Int.reduceLE, Int.reduceNeg, reduceCtorEq, Int.reduceEq, Int.reduceNe]
  refine ⟨fun hi => ?_, fun hout => ?_⟩
  · refine AtFn.pure0 (ix97 v) ?_
    have hv0 : (10 : UInt8) ∈ v := by
      rw [← List.count_pos_iff]; omega
    have hge : 0 ≤ Lib.indexByte v 10 := by
      rcases Int.lt_or_le (Lib.indexByte v 10) 0 with h | h
      · exact absurd hv0 (ixB_none h)
      · exact h
    obtain ⟨u, x, hux, hu, hix⟩ := ixB_some hge
    rw [hix]
    have f1 : ¬ (u.length : Int) < 0 := by omega
    have hvl : v.length = u.length + 1 + x.length := by rw [hux]; simp; omega
    have w1 := wrA1 (a := u.length) (by omega)
    have t1 : List.drop 0 (List.take (u.length + 1) v) = u ++ [10] := by
      rw [hux, List.drop_zero, List.take_append, List.take_of_length_le (by omega), show u.length + 1 - u.length = 1 by omega]; rfl
    have t2 : List.drop (u.length + 1) (List.take v.length v) = x := by
      rw [List.take_length, hux, ← List.drop_drop, List.drop_left]; rfl
    have c1 : u.length + 1 ≤ v.length := by omega
    have hcx : x.count 10 + 1 = v.count 10 := by
      rw [hux, List.count_append, List.count_cons_self, List.count_eq_zero_of_not_mem hu]; omega
    obtain ⟨k, hk⟩ : ∃ k, c + 1 - D.length = k + 1 := ⟨c - D.length, by omega⟩
    have g1 := rep_get D k
    have c2 : ((D.length : Nat) : Int) < ((c + 1 : Nat) : Int) := by omega
    have w2 := wrA1 (a := D.length) (by omega)
    rw [hk]
    simp -dsimp -implicitDefEqProofs (maxSteps := 1000000) only [go_sem, ↓reduceIte, Nat.reduceAdd, Nat.reduceSub, Nat.reduceMul, Nat.reduceLT, Nat.reduceLeDiff, Nat.reduceEqDiff, Nat.reduceBEq, Nat.reduceBNe, Int.reduceToNat, Int.reduceLT, Int.reduceLE, Int.reduceNeg, reduceCtorEq, Int.reduceEq, Int.reduceNe, f1, w1, w2, ext_str, size_str, t1, t2, c1, c2, Int.natCast_nonneg, Int.toNat_natCast, Nat.zero_le, Nat.zero_add, g1, Nat.le_refl]
    refine ⟨⟨(D ++ [u ++ [10]], x), by rw [h1, hux, splitA_some _ hu]; simp, by simp; omega, by simp only; omega⟩, by show x.length < v.length; omega, Le.tl (Ls := []) (y := none) [] ?_ ?_ (by simp) (by simp [sg]) trivial⟩
    · simp -dsimp -implicitDefEqProofs (maxSteps := 1000000) only [go_sem, ↓reduceIte, Nat.reduceAdd, Nat.reduceSub, Nat.reduceMul, Nat.reduceLT, Nat.reduceLeDiff, Nat.reduceEqDiff, Nat.reduceBEq, Nat.reduceBNe, Int.reduceToNat, Int.reduceLT, Int.reduceLE, Int.reduceNeg, reduceCtorEq, Int.reduceEq, Int.reduceNe, List.length_append]
    · simp -dsimp -implicitDefEqProofs (maxSteps := 1000000) only [go_sem, ↓reduceIte, Nat.reduceAdd, Nat.reduceSub, Nat.reduceMul, Nat.reduceLT, Nat.reduceLeDiff, Nat.reduceEqDiff, Nat.reduceBEq, Nat.reduceBNe, Int.reduceToNat, Int.reduceLT, Int.reduceLE, Int.reduceNeg, reduceCtorEq, Int.reduceEq, Int.reduceNe]
      refine renL_cl2 ?_ (clStr _)
      rw [rep_set, List.length_append, List.length_singleton, show c + 1 - (D.length + 1) = k by omega]
  · have hDc : D.length = c := by omega
    have hv0 : v.count 10 = 0 := by omega
    have hvn : (10 : UInt8) ∉ v := by
      intro h; have := List.count_pos_iff.2 h; omega
    have hfin : splitA l = D ++ [v] := by rw [h1, splitA_none hvn]
    have g1 := rep_get D 0
    have c2 : ((D.length : Nat) : Int) < ((c + 1 : Nat) : Int) := by omega
    have w2 := wrA1 (a := D.length) (by omega)
    have c3 : D.length + 1 ≤ c + 1 := by omega
    rw [show c + 1 - D.length = 0 + 1 by omega]
    simp -dsimp -implicitDefEqProofs (maxSteps := 1000000) only [go_sem, ↓reduceIte, Nat.reduceAdd, Nat.reduceSub, Nat.reduceMul, Nat.reduceLT, Nat.reduceLeDiff, Nat.reduceEqDiff, Nat.reduceBEq, Nat.reduceBNe, Int.reduceToNat, Int.reduceLT, Int.reduceLE, Int.reduceNeg, reduceCtorEq, Int.reduceEq, Int.reduceNe, w2, c2, c3, Int.natCast_nonneg, Int.toNat_natCast, Nat.zero_le, Nat.zero_add, g1, rep_set, List.length_map, List.length_append, List.length_replicate]
    exact ⟨by rw [hfin]; simp, by rw [hfin]; simp⟩
theorem split54 (l : List UInt8) (hl : l.length ≤ 1073741824) : NFun Tryd.prog 54 [Str l, Str [10]] 1 ((splitA l).map strC) := by
  have h85 : NFun Tryd.prog 85 [Str l, Str [10], I 1, I (-1)] 1 ((splitA l).map strC) := by rw [NFun, List.length_map]; exact split85 l hl
  have hh : RFun Tryd.prog 54 [Str l, Str [10]] 1 ((splitA l).map strC) (.sl 0 0 ((splitA l).map strC).length) := by
    refine RFun.intro 400 0 mixed Tryd.func54 (by kernel_rfl) rfl (clStr _) (Nat.le_of_ble_eq_true rfl) ?_; rw [Tryd.ntmps54, Tryd.results54]
    simp -dsimp -implicitDefEqProofs (maxSteps := 1000000) only [go_sem, ↓reduceIte, Nat.reduceAdd, Nat.reduceSub, Nat.reduceMul, Nat.reduceLT, Nat.reduceLeDiff, Nat.reduceEqDiff, Nat.reduceBEq, Nat.reduceBNe, Int.reduceToNat, Int.reduceLT, Int.reduceLE, Int.reduceNeg, reduceCtorEq, Int.reduceEq, Int.reduceNe]
    refine AtFn.new h85 ?_
    simp -dsimp -implicitDefEqProofs (maxSteps := 1000000) only [go_sem, ↓reduceIte, Nat.reduceAdd, Nat.reduceSub, Nat.reduceMul, Nat.reduceLT, Nat.reduceLeDiff, Nat.reduceEqDiff, Nat.reduceBEq, Nat.reduceBNe, Int.reduceToNat, Int.reduceLT, Int.reduceLE, Int.reduceNeg, reduceCtorEq, Int.reduceEq, Int.reduceNe]
    rfl
  exact hh
theorem reverse55 (l : List (List UInt8)) (hl0 : l ≠ []) (hl : l.length ≤ 4294967296) : MFun Tryd.prog 55 [.sl 0 0 l.length] [(0, ⟨1, l.map strC⟩)] 1 none [0] (.t []) [(0, ⟨1, l.reverse.map strC⟩)] 1 none := by
  have hlp : 1 ≤ l.length := by cases l with | nil => exact absurd rfl hl0 | cons _ _ => simp
  have e0 := wrS1 hlp (by omega)
  refine MFun.intro2 400 [] mixed Tryd.func55 (by kernel_rfl) rfl (by rw [Tryd.results55]; rfl) (Nat.le_of_ble_eq_true rfl) ?_; rw [Tryd.ntmps55]
  simp -dsimp -implicitDefEqProofs (maxSteps := 1000000) only [go_sem, ↓reduceIte, Nat.reduceAdd, Nat.reduceSub, Nat.reduceMul, Nat.reduceLT, Nat.reduceLeDiff, Nat.reduceEqDiff, Nat.reduceBEq, Nat.reduceBNe, Int.reduceToNat, Int.reduceLT, Int.reduceLE, Int.reduceNeg, reduceCtorEq, Int.reduceEq, Int.reduceNe, e0]
  refine ⟨{i : Nat // 2 * i ≤ l.length}, fun i => ⟨28, tl [(0, .sl 0 0 l.length), (2, I i.1), (3, I ((l.length : Int) - 1 - i.1))], [(0, ⟨1, (revP [] l i.1).map strC⟩)], 1, ⟨[tl [(0, .sl 0 0 l.length)]], some (.mp none)⟩⟩, fun i => l.length - i.1,
    ⟨⟨0, by omega⟩, Le.tl (Ls := [[(0, .sl 0 0 l.length)]]) [] ?_ ?_ (by simp) (by simp [sg]) ⟨by simp -dsimp -implicitDefEqProofs (maxSteps := 1000000) only [go_sem, ↓reduceIte, Nat.reduceAdd, Nat.reduceSub, Nat.reduceMul, Nat.reduceLT, Nat.reduceLeDiff, Nat.reduceEqDiff, Nat.reduceBEq, Nat.reduceBNe, Int.reduceToNat, Int.reduceLT, Int.reduceLE, Int.reduceNeg, reduceCtorEq, Int.reduceEq, Int.reduceNe], trivial⟩⟩, fun i => ?_⟩
  · simp -dsimp -implicitDefEqProofs (maxSteps := 1000000) only [go_sem, ↓reduceIte, Nat.reduceAdd, Nat.reduceSub, Nat.reduceMul, Nat.reduceLT, Nat.reduceLeDiff, Nat.reduceEqDiff, Nat.reduceBEq, Nat.reduceBNe, Int.reduceToNat, Int.reduceLT, Int.reduceLE, Int.reduceNeg, reduceCtorEq, Int.reduceEq, Int.reduceNe]
    congr 1
    omega
  · simp -dsimp -implicitDefEqProofs (maxSteps := 1000000) only [go_sem, ↓reduceIte, Nat.reduceAdd, Nat.reduceSub, Nat.reduceMul, Nat.reduceLT, Nat.reduceLeDiff, Nat.reduceEqDiff, Nat.reduceBEq, Nat.reduceBNe, Int.reduceToNat, Int.reduceLT, Int.reduceLE, Int.reduceNeg, reduceCtorEq, Int.reduceEq, Int.reduceNe]
    exact renL_cl2 (by rw [revP_0]) (clStr _)
  obtain ⟨i, hi⟩ := i
  simp -dsimp -implicitDefEqProofs (maxSteps := 1000000) only [go_sem, ↓reduceIte, Nat.reduceAdd, Nat.reduceSub, Nat.reduceMul, Nat.reduceLT, Nat.reduceLeDiff, Nat.reduceEqDiff, Nat.reduceBEq, Nat.reduceBNe, Int.reduceToNat, Int.reduceLT, Int.reduceLE, Int.reduceNeg, reduceCtorEq, Int.reduceEq, Int.reduceNe]
  refine ⟨fun h => ?_, fun h => ?_⟩
  · obtain ⟨j, hj⟩ : ∃ j : Nat, (l.length : Int) - 1 - i = (j : Int) := Int.eq_ofNat_of_zero_le (by omega)
    rw [hj] at h ⊢
    have g1 := revP_get [] l i i (by omega) (by omega)
    have g2 := revP_get [] l i j (by omega) (by omega)
    have c1 : (i : Int) < (l.length : Int) := by omega
    have c2 : (j : Int) < (l.length : Int) := by omega
    have g3 : ∀ x : List AV, (((revP [] l i).map strC).set i x)[j]? = some (strC (l.getD j [])) := fun x => by
      rw [List.getElem?_set_ne (by omega), List.getElem?_map, g2]; rfl
    have e1 : wr ((i : Int) + 1) = ((i + 1 : Nat) : Int) := wrA1 (by omega)
    have e2 : wr ((j : Int) - 1) = (l.length : Int) - 1 - ((i + 1 : Nat) : Int) := by rw [wr_in] <;> omega
    refine AtCode.drawB 13 [([], []), ([], []), ([], [0]), ([], [0]), ([], []), ([], []), ([4, 5], []), ([4, 5, 6], []), ([], []), ([], []), ([8, 9], []), ([8, 9, 10], []), ([0, 1, 4, 5, 6, 7, 8, 9, 10, 11], []), ([0, 1, 4, 5, 6, 7, 8, 9, 10, 11, 12], []), ([0, 1, 2, 3, 4, 5, 6, 7, 8, 9, 10, 11, 12, 13], []), ([0, 1, 2, 3, 4, 5, 6, 7, 8, 9, 10, 11, 12, 13, 14], [])] [false, true, true] (by kernel_rfl) ?_
    simp -dsimp -implicitDefEqProofs (maxSteps := 1000000) only [go_sem, ↓reduceIte, Nat.reduceAdd, Nat.reduceSub, Nat.reduceMul, Nat.reduceLT, Nat.reduceLeDiff, Nat.reduceEqDiff, Nat.reduceBEq, Nat.reduceBNe, Int.reduceToNat, Int.reduceLT, Int.reduceLE, Int.reduceNeg, reduceCtorEq, Int.reduceEq, Int.reduceNe, List.length_map, revP_len, List.getElem?_map, Int.natCast_nonneg, Int.toNat_natCast, Nat.zero_add, g1, g2, g3, c1, c2]
    refine ⟨by kernel_rfl, ⟨i + 1, by omega⟩, by show l.length - (i + 1) < l.length - i; omega, Le.tl (Ls := [[(0, .sl 0 0 l.length)]]) [] (by simp -dsimp -implicitDefEqProofs (maxSteps := 1000000) only [go_sem, ↓reduceIte, Nat.reduceAdd, Nat.reduceSub, Nat.reduceMul, Nat.reduceLT, Nat.reduceLeDiff, Nat.reduceEqDiff, Nat.reduceBEq, Nat.reduceBNe, Int.reduceToNat, Int.reduceLT, Int.reduceLE, Int.reduceNeg, reduceCtorEq, Int.reduceEq, Int.reduceNe, e1, e2]) ?_ (by simp) (by simp [sg]) ⟨by simp -dsimp -implicitDefEqProofs (maxSteps := 1000000) only [go_sem, ↓reduceIte, Nat.reduceAdd, Nat.reduceSub, Nat.reduceMul, Nat.reduceLT, Nat.reduceLeDiff, Nat.reduceEqDiff, Nat.reduceBEq, Nat.reduceBNe, Int.reduceToNat, Int.reduceLT, Int.reduceLE, Int.reduceNeg, reduceCtorEq, Int.reduceEq, Int.reduceNe], trivial⟩⟩
    simp -dsimp -implicitDefEqProofs (maxSteps := 1000000) only [go_sem, ↓reduceIte, Nat.reduceAdd, Nat.reduceSub, Nat.reduceMul, Nat.reduceLT, Nat.reduceLeDiff, Nat.reduceEqDiff, Nat.reduceBEq, Nat.reduceBNe, Int.reduceToNat, Int.reduceLT, Int.reduceLE, Int.reduceNeg, reduceCtorEq, Int.reduceEq, Int.reduceNe]
    refine renL_cl2 ?_ (clStr _)
    rw [← revP_set [] l i j (by omega) (by omega), List.map_set, List.map_set]
  · refine FinM2.mkv [] [(0, .sl 0 0 l.length)] ?_ ?_ ?_ ?_ ?_
    · simp -dsimp -implicitDefEqProofs (maxSteps := 1000000) only [go_sem, ↓reduceIte, Nat.reduceAdd, Nat.reduceSub, Nat.reduceMul, Nat.reduceLT, Nat.reduceLeDiff, Nat.reduceEqDiff, Nat.reduceBEq, Nat.reduceBNe, Int.reduceToNat, Int.reduceLT, Int.reduceLE, Int.reduceNeg, reduceCtorEq, Int.reduceEq, Int.reduceNe]
      exact renL_cl2 (by rw [revP_n _ _ _ (by omega)]) (clStr _)
    · simp
    · simp [sg]
    · simp -dsimp -implicitDefEqProofs (maxSteps := 1000000) only [go_sem, ↓reduceIte, Nat.reduceAdd, Nat.reduceSub, Nat.reduceMul, Nat.reduceLT, Nat.reduceLeDiff, Nat.reduceEqDiff, Nat.reduceBEq, Nat.reduceBNe, Int.reduceToNat, Int.reduceLT, Int.reduceLE, Int.reduceNeg, reduceCtorEq, Int.reduceEq, Int.reduceNe]
    · simp only [List.mem_singleton, forall_eq]
      have hne : l.map strC ≠ [] := by simpa using hl0
      have hne2 : l.reverse.map strC ≠ [] := by simpa using hl0
      exact ⟨0, 0, l.length - 1, _, _, by rw [Nat.sub_add_cancel (by omega)]; rfl, by rw [Nat.sub_add_cancel (by omega)]; simp -dsimp -implicitDefEqProofs (maxSteps := 1000000) only [go_sem, ↓reduceIte, Nat.reduceAdd, Nat.reduceSub, Nat.reduceMul, Nat.reduceLT, Nat.reduceLeDiff, Nat.reduceEqDiff, Nat.reduceBEq, Nat.reduceBNe, Int.reduceToNat, Int.reduceLT, Int.reduceLE, Int.reduceNeg, reduceCtorEq, Int.reduceEq, Int.reduceNe], rfl, rfl, rfl, hne, hne2⟩
end

section
set_option maxRecDepth 20000
abbrev digL : List UInt8 := [48, 49, 50, 51, 52, 53, 54, 55, 56, 57, 97, 98, 99, 100, 101, 102]
abbrev Rn (r : Int) : AV := .v (.int .i32 r)
def vruneB (r : Int) : Bool := (decide (0 ≤ r) && decide (r < 55296)) || (decide (57343 < r) && decide (r ≤ 1114111))
theorem vrune100 (r : Int) : PFun Tryd.prog 100 [Rn r] (Bo (vruneB r)) := by
  refine PFun.intro 400 mixed Tryd.func100 (by kernel_rfl) rfl (by first | exact .v _ | (simp [Cl_v, Cl_t, Cl_g, Cl_fn, Cl_rp, Cl_ro]; done) | (simp [Cl_v, Cl_t, Cl_g, Cl_fn, Cl_rp, Cl_ro, or_imp, forall_and]; done) | (split <;> simp [Cl_v, Cl_t, Cl_g, Cl_fn, Cl_rp, Cl_ro])) (Nat.le_of_ble_eq_true rfl) ?_; rw [Tryd.ntmps100, Tryd.results100]
  simp -dsimp -implicitDefEqProofs (maxSteps := 1000000) only [go_sem, ↓reduceIte, Nat.reduceAdd, Nat.reduceSub, Nat.reduceMul, Nat.reduceLT, Nat.reduceLeDiff, Nat.reduceEqDiff, Nat.reduceBEq, Nat.reduceBNe, Int.reduceToNat, Int.reduceLT, Int.reduceLE, Int.reduceNeg, reduceCtorEq, Int.reduceEq, Int.reduceNe]
  repeat' (first | (apply And.intro <;> intro _) | (intro _))
  all_goals simp [vruneB, *]
  all_goals (try omega)
theorem rune88a (r : Int) (h : 0 ≤ r ∧ r < 128) : PFun Tryd.prog 88 [Str digL, Rn r] (I (Lib.indexByte digL r.toNat.toUInt8)) := by
  have c1 : ¬ r < 0 := by omega
  have c2 : r < 128 := by omega
  have c3 : (0 : Int) ≤ r := by omega
  have e1 : IntKind.u8.wrap r = r := u8_ink (by simp only [inkB, Bool.and_eq_true, decide_eq_true_eq]; omega)
  refine PFun.intro 400 mixed Tryd.func88 (by kernel_rfl) rfl (by first | exact .v _ | (simp [Cl_v, Cl_t, Cl_g, Cl_fn, Cl_rp, Cl_ro]; done) | (simp [Cl_v, Cl_t, Cl_g, Cl_fn, Cl_rp, Cl_ro, or_imp, forall_and]; done) | (split <;> simp [Cl_v, Cl_t, Cl_g, Cl_fn, Cl_rp, Cl_ro])) (Nat.le_of_ble_eq_true rfl) ?_; rw [Tryd.ntmps88, Tryd.results88]
  simp -dsimp -implicitDefEqProofs (maxSteps := 1000000) only [go_sem, ↓reduceIte, Nat.reduceAdd, Nat.reduceSub, Nat.reduceMul, Nat.reduceLT, Nat.reduceLeDiff, Nat.reduceEqDiff, Nat.reduceBEq, Nat.reduceBNe, Int.reduceToNat, Int.reduceLT, Int.reduceLE, Int.reduceNeg, reduceCtorEq, Int.reduceEq, Int.reduceNe, c1, c2, c3, e1]
  refine AtFn.pure0 (ib99 digL r) ?_
  simp -dsimp -implicitDefEqProofs (maxSteps := 1000000) only [go_sem, ↓reduceIte, Nat.reduceAdd, Nat.reduceSub, Nat.reduceMul, Nat.reduceLT, Nat.reduceLeDiff, Nat.reduceEqDiff, Nat.reduceBEq, Nat.reduceBNe, Int.reduceToNat, Int.reduceLT, Int.reduceLE, Int.reduceNeg, reduceCtorEq, Int.reduceEq, Int.reduceNe]
theorem dec_dig : ((List.range 16).all fun p => decide ((Utf8.decode digits p).2 = 1) && decide ((Utf8.decode digits p).1 < 128)) = true := by kernel_rfl
theorem dec_digs {p : Nat} (h : p < 16) : (Utf8.decode digits p).2 = 1 ∧ (Utf8.decode digits p).1 < 128 := by
  have := List.all_eq_true.1 dec_dig p (List.mem_range.2 h)
  simpa using this
theorem rune88b : PFun Tryd.prog 88 [Str digL, Rn 65533] (I (-1)) := by
  refine PFun.introM 400 mixed Tryd.func88 (by kernel_rfl) rfl (by first | exact .v _ | (simp [Cl_v, Cl_t, Cl_g, Cl_fn, Cl_rp, Cl_ro]; done) | (simp [Cl_v, Cl_t, Cl_g, Cl_fn, Cl_rp, Cl_ro, or_imp, forall_and]; done) | (split <;> simp [Cl_v, Cl_t, Cl_g, Cl_fn, Cl_rp, Cl_ro])) (Nat.le_of_ble_eq_true rfl) ?_; rw [Tryd.ntmps88, Tryd.results88]
  simp -dsimp -implicitDefEqProofs (maxSteps := 1000000) only [go_sem, ↓reduceIte, Nat.reduceAdd, Nat.reduceSub, Nat.reduceMul, Nat.reduceLT, Nat.reduceLeDiff, Nat.reduceEqDiff, Nat.reduceBEq, Nat.reduceBNe, Int.reduceToNat, Int.reduceLT, Int.reduceLE, Int.reduceNeg, reduceCtorEq, Int.reduceEq, Int.reduceNe]
  refine AtOp.rangeS rfl (by kernel_rfl) (by simp -dsimp -implicitDefEqProofs (maxSteps := 1000000) only [go_sem, ↓reduceIte, Nat.reduceAdd, Nat.reduceSub, Nat.reduceMul, Nat.reduceLT, Nat.reduceLeDiff, Nat.reduceEqDiff, Nat.reduceBEq, Nat.reduceBNe, Int.reduceToNat, Int.reduceLT, Int.reduceLE, Int.reduceNeg, reduceCtorEq, Int.reduceEq, Int.reduceNe]; rfl) fun r => ?_
  simp -dsimp -implicitDefEqProofs (maxSteps := 1000000) only [go_sem, ↓reduceIte, Nat.reduceAdd, Nat.reduceSub, Nat.reduceMul, Nat.reduceLT, Nat.reduceLeDiff, Nat.reduceEqDiff, Nat.reduceBEq, Nat.reduceBNe, Int.reduceToNat, Int.reduceLT, Int.reduceLE, Int.reduceNeg, reduceCtorEq, Int.reduceEq, Int.reduceNe]
  refine ⟨{p : Nat // p ≤ 16}, fun p => ⟨187, tl [(175, .v (.pointer (some ⟨r, 0, none⟩)))], [], 0, ⟨[], some (.mp (some (r, .str digits p.1)))⟩⟩, fun p => 16 - p.1,
    ⟨⟨0, by omega⟩, Le.tl (Ls := []) [] (by simp -dsimp -implicitDefEqProofs (maxSteps := 1000000) only [go_sem, ↓reduceIte, Nat.reduceAdd, Nat.reduceSub, Nat.reduceMul, Nat.reduceLT, Nat.reduceLeDiff, Nat.reduceEqDiff, Nat.reduceBEq, Nat.reduceBNe, Int.reduceToNat, Int.reduceLT, Int.reduceLE, Int.reduceNeg, reduceCtorEq, Int.reduceEq, Int.reduceNe]) (by simp) (by simp) (by simp) trivial⟩, fun p => ?_⟩
  obtain ⟨p, hp⟩ := p
  simp -dsimp -implicitDefEqProofs (maxSteps := 1000000) only [go_sem, ↓reduceIte, Nat.reduceAdd, Nat.reduceSub, Nat.reduceMul, Nat.reduceLT, Nat.reduceLeDiff, Nat.reduceEqDiff, Nat.reduceBEq, Nat.reduceBNe, Int.reduceToNat, Int.reduceLT, Int.reduceLE, Int.reduceNeg, reduceCtorEq, Int.reduceEq, Int.reduceNe]
  refine AtOp.nextS (b := digits) (pos := p) rfl (by simp -dsimp -implicitDefEqProofs (maxSteps := 1000000) only [go_sem, ↓reduceIte, Nat.reduceAdd, Nat.reduceSub, Nat.reduceMul, Nat.reduceLT, Nat.reduceLeDiff, Nat.reduceEqDiff, Nat.reduceBEq, Nat.reduceBNe, Int.reduceToNat, Int.reduceLT, Int.reduceLE, Int.reduceNeg, reduceCtorEq, Int.reduceEq, Int.reduceNe]) ?_
  by_cases hlt : p < 16
  · obtain ⟨d1, d2⟩ := dec_digs hlt
    rw [if_pos (show p < digits.size from hlt), d1]
    obtain ⟨c, hc⟩ : ∃ c, c = (Utf8.decode digits p).1 := ⟨_, rfl⟩
    rw [← hc] at d2 ⊢
    have f1 : ¬ ((c : Nat) : Int) = 65533 := by omega
    simp -dsimp -implicitDefEqProofs (maxSteps := 1000000) only [go_sem, ↓reduceIte, Nat.reduceAdd, Nat.reduceSub, Nat.reduceMul, Nat.reduceLT, Nat.reduceLeDiff, Nat.reduceEqDiff, Nat.reduceBEq, Nat.reduceBNe, Int.reduceToNat, Int.reduceLT, Int.reduceLE, Int.reduceNeg, reduceCtorEq, Int.reduceEq, Int.reduceNe, f1]
    exact ⟨⟨p + 1, by omega⟩, by show 16 - (p + 1) < 16 - p; omega, Le.tl (Ls := []) [] (by simp -dsimp -implicitDefEqProofs (maxSteps := 1000000) only [go_sem, ↓reduceIte, Nat.reduceAdd, Nat.reduceSub, Nat.reduceMul, Nat.reduceLT, Nat.reduceLeDiff, Nat.reduceEqDiff, Nat.reduceBEq, Nat.reduceBNe, Int.reduceToNat, Int.reduceLT, Int.reduceLE, Int.reduceNeg, reduceCtorEq, Int.reduceEq, Int.reduceNe]) (by simp) (by simp) (by simp) trivial⟩
  · rw [if_neg (show ¬ p < digits.size from hlt)]
    simp -dsimp -implicitDefEqProofs (maxSteps := 1000000) only [go_sem, ↓reduceIte, Nat.reduceAdd, Nat.reduceSub, Nat.reduceMul, Nat.reduceLT, Nat.reduceLeDiff, Nat.reduceEqDiff, Nat.reduceBEq, Nat.reduceBNe, Int.reduceToNat, Int.reduceLT, Int.reduceLE, Int.reduceNeg, reduceCtorEq, Int.reduceEq, Int.reduceNe]
theorem enc_ok {r : Int} (h : 128 ≤ r) (hv : vruneB r = true) : ∃ (l : List UInt8) (b : UInt8) (n : Nat), Utf8.encode r = ⟨l.toArray⟩ ∧ l.length = n + 1 ∧ 1 ≤ n ∧ n ≤ 3 ∧ l[n]? = some b ∧ 128 ≤ b.toNat := by
  have hv2 : Utf8.valid r = true := by
    simp only [vruneB, Bool.or_eq_true, Bool.and_eq_true, decide_eq_true_eq] at hv
    simp only [Utf8.valid, Bool.or_eq_true, Bool.and_eq_true, decide_eq_true_eq]
    omega
  have hb : ∀ c : Nat, 128 ≤ (UInt8.ofNat (0x80 + c % 64)).toNat := by
    intro c
    rw [UInt8.toNat_ofNat']
    have : c % 64 < 64 := Nat.mod_lt _ (by omega)
    omega
  unfold Utf8.encode
  rw [hv2]
  simp only [if_true]
  rw [if_neg (by omega)]
  split
  · exact ⟨[_, _], _, 1, rfl, rfl, by omega, by omega, rfl, hb _⟩
  · split
    · exact ⟨[_, _, _], _, 2, rfl, rfl, by omega, by omega, rfl, hb _⟩
    · exact ⟨[_, _, _, _], _, 3, rfl, rfl, by omega, by omega, rfl, hb _⟩
theorem rune88c (r : Int) (h : 128 ≤ r) (h2 : ¬ r = 65533) (hv : vruneB r = true) : PFun Tryd.prog 88 [Str digL, Rn r] (I (-1)) := by
  obtain ⟨l, b, n, he, hl, hn1, hn3, hb, hb2⟩ := enc_ok h hv
  have c2 : ¬ r < 128 := by omega
  have c3 : (0 : Int) ≤ r := by omega
  refine PFun.intro 400 mixed Tryd.func88 (by kernel_rfl) rfl (by first | exact .v _ | (simp [Cl_v, Cl_t, Cl_g, Cl_fn, Cl_rp, Cl_ro]; done) | (simp [Cl_v, Cl_t, Cl_g, Cl_fn, Cl_rp, Cl_ro, or_imp, forall_and]; done) | (split <;> simp [Cl_v, Cl_t, Cl_g, Cl_fn, Cl_rp, Cl_ro])) (Nat.le_of_ble_eq_true rfl) ?_; rw [Tryd.ntmps88, Tryd.results88]
  simp -dsimp -implicitDefEqProofs (maxSteps := 1000000) only [go_sem, ↓reduceIte, Nat.reduceAdd, Nat.reduceSub, Nat.reduceMul, Nat.reduceLT, Nat.reduceLeDiff, Nat.reduceEqDiff, Nat.reduceBEq, Nat.reduceBNe, Int.reduceToNat, Int.reduceLT, Int.reduceLE, Int.reduceNeg, reduceCtorEq, Int.reduceEq, Int.reduceNe, c2, c3, h2]
  refine AtFn.pure0 (vrune100 r) ?_
  simp -dsimp -implicitDefEqProofs (maxSteps := 1000000) only [go_sem, ↓reduceIte, Nat.reduceAdd, Nat.reduceSub, Nat.reduceMul, Nat.reduceLT, Nat.reduceLeDiff, Nat.reduceEqDiff, Nat.reduceBEq, Nat.reduceBNe, Int.reduceToNat, Int.reduceLT, Int.reduceLE, Int.reduceNeg, reduceCtorEq, Int.reduceEq, Int.reduceNe, hv]
  refine AtOp.r2s rfl (by kernel_rfl) (by kernel_rfl) (by simp -dsimp -implicitDefEqProofs (maxSteps := 1000000) only [go_sem, ↓reduceIte, Nat.reduceAdd, Nat.reduceSub, Nat.reduceMul, Nat.reduceLT, Nat.reduceLeDiff, Nat.reduceEqDiff, Nat.reduceBEq, Nat.reduceBNe, Int.reduceToNat, Int.reduceLT, Int.reduceLE, Int.reduceNeg, reduceCtorEq, Int.reduceEq, Int.reduceNe]; rfl) ?_
  rw [he]
  simp -dsimp -implicitDefEqProofs (maxSteps := 1000000) only [go_sem, ↓reduceIte, Nat.reduceAdd, Nat.reduceSub, Nat.reduceMul, Nat.reduceLT, Nat.reduceLeDiff, Nat.reduceEqDiff, Nat.reduceBEq, Nat.reduceBNe, Int.reduceToNat, Int.reduceLT, Int.reduceLE, Int.reduceNeg, reduceCtorEq, Int.reduceEq, Int.reduceNe]
  refine ⟨Unit, fun _ => ⟨187, tl [(0, Str digL), (7, Str l), (8, I n), (9, I n)], [], 0, .nil⟩, fun _ => 0, ⟨(), Le.tl (Ls := []) (y := none) [] ?_ (by simp) (by simp) (by simp) trivial⟩, fun _ => ?_⟩
  · have e1 := wrS1 (a := l.length) (by omega) (by omega)
    rw [hl, Nat.add_sub_cancel] at e1
    simp -dsimp -implicitDefEqProofs (maxSteps := 1000000) only [go_sem, ↓reduceIte, Nat.reduceAdd, Nat.reduceSub, Nat.reduceMul, Nat.reduceLT, Nat.reduceLeDiff, Nat.reduceEqDiff, Nat.reduceBEq, Nat.reduceBNe, Int.reduceToNat, Int.reduceLT, Int.reduceLE, Int.reduceNeg, reduceCtorEq, Int.reduceEq, Int.reduceNe, size_str, hl, e1]
  have c1 : (n : Int) < 16 := by omega
  obtain ⟨d, hd, hd2⟩ : ∃ d : UInt8, digL[n]? = some d ∧ d.toNat < 128 := by
    rcases (show n = 1 ∨ n = 2 ∨ n = 3 by omega) with rfl | rfl | rfl <;> exact ⟨_, rfl, by decide⟩
  have f2 : ¬ ((d.toNat : Nat) : Int) = ((b.toNat : Nat) : Int) := by omega
  have e2 := wrA1 (a := n) (by omega)
  have c4 : n + 1 ≤ 16 := by omega
  have hno : Lib.indexByte (List.drop (n + 1) (List.take 16 digL)) b = -1 := by
    have : b ∉ List.drop (n + 1) (List.take 16 digL) := by
      intro hm
      have hm := List.mem_of_mem_take (List.mem_of_mem_drop hm)
      have : ∀ x ∈ digL, x.toNat < 128 := by decide
      have := this b hm
      omega
    rcases Int.lt_or_le (Lib.indexByte (List.drop (n + 1) (List.take 16 digL)) b) 0 with h | h
    · have := ixB_ge b (List.drop (n + 1) (List.take 16 digL)); omega
    · obtain ⟨u, v, e, _⟩ := ixB_some h
      exact absurd (e ▸ by simp) this
  have hib := ib99 (List.drop (n + 1) (List.take 16 digL)) ((b.toNat : Nat) : Int)
  rw [show ((b.toNat : Nat) : Int).toNat.toUInt8 = b by simp, hno] at hib
  have hsz : ({ data := digL.toArray } : ByteArray).size = 16 := rfl
  simp -dsimp -implicitDefEqProofs (maxSteps := 1000000) only [go_sem, ↓reduceIte, Nat.reduceAdd, Nat.reduceSub, Nat.reduceMul, Nat.reduceLT, Nat.reduceLeDiff, Nat.reduceEqDiff, Nat.reduceBEq, Nat.reduceBNe, Int.reduceToNat, Int.reduceLT, Int.reduceLE, Int.reduceNeg, reduceCtorEq, Int.reduceEq, Int.reduceNe, c1, hsz]
  refine AtCode.draw 7 [([], []), ([], []), ([0, 1], []), ([], []), ([], []), ([3, 4], []), ([0, 1, 2, 3, 4, 5], [])] (by kernel_rfl) ?_
  simp -dsimp -implicitDefEqProofs (maxSteps := 1000000) only [go_sem, ↓reduceIte, Nat.reduceAdd, Nat.reduceSub, Nat.reduceMul, Nat.reduceLT, Nat.reduceLeDiff, Nat.reduceEqDiff, Nat.reduceBEq, Nat.reduceBNe, Int.reduceToNat, Int.reduceLT, Int.reduceLE, Int.reduceNeg, reduceCtorEq, Int.reduceEq, Int.reduceNe, get_str, Int.toNat_natCast, Int.natCast_nonneg, hd, hb, f2]
  refine AtCode.draw 9 [([], []), ([], []), ([1], []), ([0, 1, 2], []), ([], []), ([], []), ([4, 5], []), ([0, 1, 2, 3, 4, 5, 6], []), ([0, 1, 2, 3, 4, 5, 6, 7], [])] (by kernel_rfl) ?_
  simp -dsimp -implicitDefEqProofs (maxSteps := 1000000) only [go_sem, ↓reduceIte, Nat.reduceAdd, Nat.reduceSub, Nat.reduceMul, Nat.reduceLT, Nat.reduceLeDiff, Nat.reduceEqDiff, Nat.reduceBEq, Nat.reduceBNe, Int.reduceToNat, Int.reduceLT, Int.reduceLE, Int.reduceNeg, reduceCtorEq, Int.reduceEq, Int.reduceNe, get_str, Int.toNat_natCast, Int.natCast_nonneg, hd, hb, f2, e2, ext_str, size_str, c4, hsz, Nat.le_refl]
  refine QFn.use _ hib (by simp -dsimp -implicitDefEqProofs (maxSteps := 1000000) only [go_sem, ↓reduceIte, Nat.reduceAdd, Nat.reduceSub, Nat.reduceMul, Nat.reduceLT, Nat.reduceLeDiff, Nat.reduceEqDiff, Nat.reduceBEq, Nat.reduceBNe, Int.reduceToNat, Int.reduceLT, Int.reduceLE, Int.reduceNeg, reduceCtorEq, Int.reduceEq, Int.reduceNe]) ?_
  simp -dsimp -implicitDefEqProofs (maxSteps := 1000000) only [go_sem, ↓reduceIte, Nat.reduceAdd, Nat.reduceSub, Nat.reduceMul, Nat.reduceLT, Nat.reduceLeDiff, Nat.reduceEqDiff, Nat.reduceBEq, Nat.reduceBNe, Int.reduceToNat, Int.reduceLT, Int.reduceLE, Int.reduceNeg, reduceCtorEq, Int.reduceEq, Int.reduceNe]
end

section
set_option maxRecDepth 20000
def runeX (r : Int) : Int := if r < 128 then Lib.indexByte digL r.toNat.toUInt8 else -1
theorem rune88 (r : Int) (h0 : 0 ≤ r) : PFun Tryd.prog 88 [Str digL, Rn r] (I (runeX r)) := by
  unfold runeX
  by_cases h1 : r < 128
  · rw [if_pos h1]; exact rune88a r ⟨h0, h1⟩
  · rw [if_neg h1]
    by_cases h2 : r = 65533
    · subst h2; exact rune88b
    · by_cases h3 : vruneB r = true
      · exact rune88c r (by omega) h2 h3
      · have h3 : vruneB r = false := by simpa using h3
        refine PFun.intro 400 mixed Tryd.func88 (by kernel_rfl) rfl (by first | exact .v _ | (simp [Cl_v, Cl_t, Cl_g, Cl_fn, Cl_rp, Cl_ro]; done) | (simp [Cl_v, Cl_t, Cl_g, Cl_fn, Cl_rp, Cl_ro, or_imp, forall_and]; done) | (split <;> simp [Cl_v, Cl_t, Cl_g, Cl_fn, Cl_rp, Cl_ro])) (Nat.le_of_ble_eq_true rfl) ?_; rw [Tryd.ntmps88, Tryd.results88]
        simp -dsimp -implicitDefEqProofs (maxSteps := 1000000) only [go_sem, ↓reduceIte, Nat.reduceAdd, Nat.reduceSub, Nat.reduceMul, Nat.reduceLT, Nat.reduceLeDiff, Nat.reduceEqDiff, Nat.reduceBEq, Nat.reduceBNe, Int.reduceToNat, Int.reduceLT, Int.reduceLE, Int.reduceNeg, reduceCtorEq, Int.reduceEq, Int.reduceNe, h1, h0, h2]
        refine AtFn.pure0 (vrune100 r) ?_
        simp -dsimp -implicitDefEqProofs (maxSteps := 1000000) only [go_sem, ↓reduceIte, Nat.reduceAdd, Nat.reduceSub, Nat.reduceMul, Nat.reduceLT, Nat.reduceLeDiff, Nat.reduceEqDiff, Nat.reduceBEq, Nat.reduceBNe, Int.reduceToNat, Int.reduceLT, Int.reduceLE, Int.reduceNeg, reduceCtorEq, Int.reduceEq, Int.reduceNe, h3]
theorem dec_lo {s : ByteArray} {i : Nat} (h : (s.get! i).toNat < 128) : Utf8.decode s i = ((s.get! i).toNat, 1) := by
  unfold Utf8.decode
  simp only [Nat.add_zero]
  rw [if_pos h]
theorem dec_hi {s : ByteArray} {i : Nat} (h : ¬ (s.get! i).toNat < 128) : 128 ≤ (Utf8.decode s i).1 := by
  unfold Utf8.decode
  simp only [Nat.add_zero]
  rw [if_neg h]
  simp only [Utf8.runeError]
  split
  · split
    · simpa using ‹_›
    · decide
  · split
    · split
      · rename_i hh; simp only [Bool.and_eq_true, decide_eq_true_eq] at hh; simp only; omega
      · decide
    · split
      · split
        · rename_i hh; simp only [Bool.and_eq_true, decide_eq_true_eq] at hh; simp only; omega
        · decide
      · decide
theorem get_bang {l : List UInt8} {i : Nat} {c : UInt8} (h : l[i]? = some c) : (⟨l.toArray⟩ : ByteArray).get! i = c := by
  show l.toArray[i]! = c
  have hlt := (List.getElem?_eq_some_iff.1 h).1
  rw [getElem!_pos l.toArray i (by simpa using hlt)]
  have := (List.getElem?_eq_some_iff.1 h).2
  simpa using this
def vP : List UInt8 → Int
  | [a] => ixD a
  | [a, b] => 16 * ixD a + ixD b
  | _ => 0
theorem or_all : ((List.range 256).all fun n => decide (IntKind.u8.wrap ↑(BitVec.ofInt IntKind.u8.bits (IntKind.u8.wrap (((n / 16 : Nat) : Int) * 2 ^ min 4 8)) ||| BitVec.ofInt IntKind.u8.bits (IntKind.u8.wrap ((n % 16 : Nat) : Int))).toNat = ((n : Nat) : Int))) = true := by kernel_rfl
theorem or_ok {a b : Int} (ha : 0 ≤ a ∧ a ≤ 15) (hb : 0 ≤ b ∧ b ≤ 15) : IntKind.u8.wrap ↑(BitVec.ofInt IntKind.u8.bits (IntKind.u8.wrap (a * 2 ^ min 4 8)) ||| BitVec.ofInt IntKind.u8.bits (IntKind.u8.wrap b)).toNat = 16 * a + b := by
  obtain ⟨a, rfl⟩ := Int.eq_ofNat_of_zero_le ha.1
  obtain ⟨b, rfl⟩ := Int.eq_ofNat_of_zero_le hb.1
  have := List.all_eq_true.1 or_all (16 * a + b) (List.mem_range.2 (by omega))
  rw [decide_eq_true_eq, show (16 * a + b) / 16 = a by omega, show (16 * a + b) % 16 = b by omega] at this
  rw [this]; simp
theorem ixD_rune {c : UInt8} (h : c.toNat < 128) : runeX ((c.toNat : Nat) : Int) = ixD c := by
  unfold runeX ixD
  rw [if_pos (by omega)]
  simp
theorem ixD_hi {c : UInt8} (h : ¬ c.toNat < 128) : ixD c = -1 := by
  have : ∀ n < 256, ¬ n < 128 → ixD (UInt8.ofNat n) = -1 := by decide +kernel
  have := this c.toNat c.toNat_lt h
  simpa using this
theorem two_cases {l : List UInt8} (hl : l.length = 1 ∨ l.length = 2) : (∃ a, l = [a]) ∨ ∃ a b, l = [a, b] := by
  match l, hl with
  | [a], _ => exact .inl ⟨a, rfl⟩
  | [a, b], _ => exact .inr ⟨a, b, rfl⟩
  | [], h => simp at h
  | _ :: _ :: _ :: _, h => simp at h
theorem inkP_bad {l : List UInt8} (hl : l.length = 1 ∨ l.length = 2) (hd : ¬ l = [46, 46]) {c : UInt8} (hc : c ∈ l) (h : ixD c < 0) : inkP l = (0, false) := by
  rcases two_cases hl with ⟨a, rfl⟩ | ⟨a, b, rfl⟩
  · rw [List.mem_singleton.1 hc] at h
    simp only [inkP]
    rw [if_pos h]
  · simp only [inkP]
    rw [if_neg (by rintro ⟨rfl, rfl⟩; exact hd rfl), if_pos]
    simp only [List.mem_cons, List.not_mem_nil, or_false] at hc
    rcases hc with rfl | rfl
    · exact .inl h
    · exact .inr h
theorem inkP_good {l : List UInt8} (hl : l.length = 1 ∨ l.length = 2) (hd : ¬ l = [46, 46]) (h : ∀ c ∈ l, 0 ≤ ixD c) : inkP l = (vP l, decide ((l.length : Int) = 2)) := by
  rcases two_cases hl with ⟨a, rfl⟩ | ⟨a, b, rfl⟩
  · have ha := h a (by simp)
    simp only [inkP, vP]
    rw [if_neg (by omega)]
    rfl
  · have ha := h a (by simp)
    have hb := h b (by simp)
    simp only [inkP, vP]
    rw [if_neg (by rintro ⟨rfl, rfl⟩; exact hd rfl), if_neg (by omega)]
    rfl
theorem vP_step {l : List UInt8} (hl : l.length = 1 ∨ l.length = 2) {p : Nat} {c : UInt8} (hc : l[p]? = some c) (hall : ∀ x ∈ l.take p, 0 ≤ ixD x) (h : 0 ≤ ixD c) :
    IntKind.u8.wrap ↑(BitVec.ofInt IntKind.u8.bits (IntKind.u8.wrap (vP (l.take p) * 2 ^ min 4 8)) ||| BitVec.ofInt IntKind.u8.bits (IntKind.u8.wrap (ixD c))).toNat = vP (l.take (p + 1)) := by
  have hcb := ixD_bd c
  rcases two_cases hl with ⟨a, rfl⟩ | ⟨a, b, rfl⟩
  · match p with
    | 0 =>
      simp at hc; subst hc
      have := or_ok (a := 0) (b := ixD a) (by omega) (by omega)
      simpa [vP] using this
    | p + 1 => simp at hc
  · match p with
    | 0 =>
      simp at hc; subst hc
      have := or_ok (a := 0) (b := ixD a) (by omega) (by omega)
      simpa [vP] using this
    | 1 =>
      simp at hc; subst hc
      have ha := hall a (by simp)
      have hab := ixD_bd a
      have := or_ok (a := ixD a) (b := ixD b) (by omega) (by omega)
      simpa [vP] using this
    | p + 2 => simp at hc
theorem inkOf58 (l : List UInt8) (hl : l.length = 1 ∨ l.length = 2) : PFun Tryd.prog 58 [Str l] (.t [U (inkP l).1, Bo (inkP l).2]) := by
  by_cases hdd : l = [46, 46]
  · subst hdd
    refine PFun.introM 400 mixed Tryd.func58 (by kernel_rfl) rfl (by first | exact .v _ | (simp [Cl_v, Cl_t, Cl_g, Cl_fn, Cl_rp, Cl_ro]; done) | (simp [Cl_v, Cl_t, Cl_g, Cl_fn, Cl_rp, Cl_ro, or_imp, forall_and]; done) | (split <;> simp [Cl_v, Cl_t, Cl_g, Cl_fn, Cl_rp, Cl_ro])) (Nat.le_of_ble_eq_true rfl) ?_; rw [Tryd.ntmps58, Tryd.results58]
    simp -dsimp -implicitDefEqProofs (maxSteps := 1000000) only [go_sem, ↓reduceIte, Nat.reduceAdd, Nat.reduceSub, Nat.reduceMul, Nat.reduceLT, Nat.reduceLeDiff, Nat.reduceEqDiff, Nat.reduceBEq, Nat.reduceBNe, Int.reduceToNat, Int.reduceLT, Int.reduceLE, Int.reduceNeg, reduceCtorEq, Int.reduceEq, Int.reduceNe]
    rfl
  have hne : (({ data := l.toArray } : ByteArray).toList == ({ data := #[46, 46] } : ByteArray).toList) = false := (str_eqF l [46, 46]).2 hdd
  refine PFun.introM 400 mixed Tryd.func58 (by kernel_rfl) rfl (by first | exact .v _ | (simp [Cl_v, Cl_t, Cl_g, Cl_fn, Cl_rp, Cl_ro]; done) | (simp [Cl_v, Cl_t, Cl_g, Cl_fn, Cl_rp, Cl_ro, or_imp, forall_and]; done) | (split <;> simp [Cl_v, Cl_t, Cl_g, Cl_fn, Cl_rp, Cl_ro])) (Nat.le_of_ble_eq_true rfl) ?_; rw [Tryd.ntmps58, Tryd.results58]
  simp -dsimp -implicitDefEqProofs (maxSteps := 1000000) only [go_sem, ↓reduceIte, Nat.reduceAdd, Nat.reduceSub, Nat.reduceMul, Nat.reduceLT, Nat.reduceLeDiff, Nat.reduceEqDiff, Nat.reduceBEq, Nat.reduceBNe, Int.reduceToNat, Int.reduceLT, Int.reduceLE, Int.reduceNeg, reduceCtorEq, Int.reduceEq, Int.reduceNe, hne]
  refine AtOp.rangeS rfl (by kernel_rfl) (by simp -dsimp -implicitDefEqProofs (maxSteps := 1000000) only [go_sem, ↓reduceIte, Nat.reduceAdd, Nat.reduceSub, Nat.reduceMul, Nat.reduceLT, Nat.reduceLeDiff, Nat.reduceEqDiff, Nat.reduceBEq, Nat.reduceBNe, Int.reduceToNat, Int.reduceLT, Int.reduceLE, Int.reduceNeg, reduceCtorEq, Int.reduceEq, Int.reduceNe]; rfl) fun r => ?_
  simp -dsimp -implicitDefEqProofs (maxSteps := 1000000) only [go_sem, ↓reduceIte, Nat.reduceAdd, Nat.reduceSub, Nat.reduceMul, Nat.reduceLT, Nat.reduceLeDiff, Nat.reduceEqDiff, Nat.reduceBEq, Nat.reduceBNe, Int.reduceToNat, Int.reduceLT, Int.reduceLE, Int.reduceNeg, reduceCtorEq, Int.reduceEq, Int.reduceNe]
  refine ⟨{p : Nat // p ≤ l.length ∧ ∀ c ∈ l.take p, 0 ≤ ixD c}, fun p => ⟨27, tl [(0, Str l), (2, U (vP (l.take p.1))), (10, .v (.pointer (some ⟨r, 0, none⟩)))], [], 0, ⟨[], some (.mp (some (r, .str ⟨l.toArray⟩ p.1)))⟩⟩, fun p => l.length - p.1,
    ⟨⟨0, by omega, by simp⟩, Le.tl (Ls := []) [] (by simp -dsimp -implicitDefEqProofs (maxSteps := 1000000) only [go_sem, ↓reduceIte, Nat.reduceAdd, Nat.reduceSub, Nat.reduceMul, Nat.reduceLT, Nat.reduceLeDiff, Nat.reduceEqDiff, Nat.reduceBEq, Nat.reduceBNe, Int.reduceToNat, Int.reduceLT, Int.reduceLE, Int.reduceNeg, reduceCtorEq, Int.reduceEq, Int.reduceNe, List.take_zero, vP]) (by simp) (by simp) (by simp) trivial⟩, fun p => ?_⟩
  obtain ⟨p, hp, hall⟩ := p
  simp -dsimp -implicitDefEqProofs (maxSteps := 1000000) only [go_sem, ↓reduceIte, Nat.reduceAdd, Nat.reduceSub, Nat.reduceMul, Nat.reduceLT, Nat.reduceLeDiff, Nat.reduceEqDiff, Nat.reduceBEq, Nat.reduceBNe, Int.reduceToNat, Int.reduceLT, Int.reduceLE, Int.reduceNeg, reduceCtorEq, Int.reduceEq, Int.reduceNe]
  refine AtOp.nextS (b := ⟨l.toArray⟩) (pos := p) rfl (by simp -dsimp -implicitDefEqProofs (maxSteps := 1000000) only [go_sem, ↓reduceIte, Nat.reduceAdd, Nat.reduceSub, Nat.reduceMul, Nat.reduceLT, Nat.reduceLeDiff, Nat.reduceEqDiff, Nat.reduceBEq, Nat.reduceBNe, Int.reduceToNat, Int.reduceLT, Int.reduceLE, Int.reduceNeg, reduceCtorEq, Int.reduceEq, Int.reduceNe]) ?_
  by_cases hlt : p < l.length
  · rw [if_pos (show p < (⟨l.toArray⟩ : ByteArray).size by rw [size_str]; exact hlt)]
    obtain ⟨c, hc⟩ : ∃ c, l[p]? = some c := ⟨_, List.getElem?_eq_getElem hlt⟩
    have hg := get_bang hc
    by_cases hc128 : c.toNat < 128
    · rw [dec_lo (by rw [hg]; exact hc128), hg]
      simp -dsimp -implicitDefEqProofs (maxSteps := 1000000) only [go_sem, ↓reduceIte, Nat.reduceAdd, Nat.reduceSub, Nat.reduceMul, Nat.reduceLT, Nat.reduceLeDiff, Nat.reduceEqDiff, Nat.reduceBEq, Nat.reduceBNe, Int.reduceToNat, Int.reduceLT, Int.reduceLE, Int.reduceNeg, reduceCtorEq, Int.reduceEq, Int.reduceNe]
      refine AtFn.pure0 (rune88 _ (by omega)) ?_
      rw [ixD_rune hc128]
      simp -dsimp -implicitDefEqProofs (maxSteps := 1000000) only [go_sem, ↓reduceIte, Nat.reduceAdd, Nat.reduceSub, Nat.reduceMul, Nat.reduceLT, Nat.reduceLeDiff, Nat.reduceEqDiff, Nat.reduceBEq, Nat.reduceBNe, Int.reduceToNat, Int.reduceLT, Int.reduceLE, Int.reduceNeg, reduceCtorEq, Int.reduceEq, Int.reduceNe]
      refine ⟨fun hneg => ?_, fun hpos => ?_⟩
      · rw [inkP_bad hl hdd (List.mem_of_getElem? hc) hneg]
      · have hstep := vP_step hl hc hall (by omega)
        refine ⟨⟨p + 1, by omega, fun x hx => ?_⟩, by show l.length - (p + 1) < l.length - p; omega, Le.tl (Ls := []) [] (by simp -dsimp -implicitDefEqProofs (maxSteps := 1000000) only [go_sem, ↓reduceIte, Nat.reduceAdd, Nat.reduceSub, Nat.reduceMul, Nat.reduceLT, Nat.reduceLeDiff, Nat.reduceEqDiff, Nat.reduceBEq, Nat.reduceBNe, Int.reduceToNat, Int.reduceLT, Int.reduceLE, Int.reduceNeg, reduceCtorEq, Int.reduceEq, Int.reduceNe, hstep]) (by simp) (by simp) (by simp) trivial⟩
        rw [List.take_add_one, hc] at hx
        rcases List.mem_append.1 hx with hx | hx
        · exact hall x hx
        · simp at hx; subst hx; omega
    · have := dec_hi (s := ⟨l.toArray⟩) (i := p) (by rw [hg]; exact hc128)
      obtain ⟨q, hq⟩ : ∃ q, q = Utf8.decode ⟨l.toArray⟩ p := ⟨_, rfl⟩
      rw [← hq] at this ⊢
      have hrx : runeX ((q.1 : Nat) : Int) = -1 := by unfold runeX; rw [if_neg (by omega)]
      have hr := rune88 ((q.1 : Nat) : Int) (by omega)
      rw [hrx] at hr
      simp -dsimp -implicitDefEqProofs (maxSteps := 1000000) only [go_sem, ↓reduceIte, Nat.reduceAdd, Nat.reduceSub, Nat.reduceMul, Nat.reduceLT, Nat.reduceLeDiff, Nat.reduceEqDiff, Nat.reduceBEq, Nat.reduceBNe, Int.reduceToNat, Int.reduceLT, Int.reduceLE, Int.reduceNeg, reduceCtorEq, Int.reduceEq, Int.reduceNe]
      refine AtFn.pure0 hr ?_
      simp -dsimp -implicitDefEqProofs (maxSteps := 1000000) only [go_sem, ↓reduceIte, Nat.reduceAdd, Nat.reduceSub, Nat.reduceMul, Nat.reduceLT, Nat.reduceLeDiff, Nat.reduceEqDiff, Nat.reduceBEq, Nat.reduceBNe, Int.reduceToNat, Int.reduceLT, Int.reduceLE, Int.reduceNeg, reduceCtorEq, Int.reduceEq, Int.reduceNe]
      rw [inkP_bad hl hdd (List.mem_of_getElem? hc) (by rw [ixD_hi hc128]; decide)]
  · rw [if_neg (show ¬ p < (⟨l.toArray⟩ : ByteArray).size by rw [size_str]; exact hlt)]
    simp -dsimp -implicitDefEqProofs (maxSteps := 1000000) only [go_sem, ↓reduceIte, Nat.reduceAdd, Nat.reduceSub, Nat.reduceMul, Nat.reduceLT, Nat.reduceLeDiff, Nat.reduceEqDiff, Nat.reduceBEq, Nat.reduceBNe, Int.reduceToNat, Int.reduceLT, Int.reduceLE, Int.reduceNeg, reduceCtorEq, Int.reduceEq, Int.reduceNe, size_str]
    have hpl : l.take p = l := List.take_of_length_le (by omega)
    rw [hpl] at hall ⊢
    rw [inkP_good hl hdd hall]
end

section
set_option maxRecDepth 20000
attribute [local go_sem] clPxT
def linesP (S : List UInt8) : List (List UInt8) := (splitA S).dropLast.reverse
def parseP (S : List UInt8) : Ra × Int :=
  if 131328 < (S.length : Int) then (raZ, 30) else
    match goLines (linesP S) 0 [] with
    | none => (raZ, 30)
    | some (w, p) => if (textP ⟨w, (linesP S).length, p⟩).2 = 0 ∧ (textP ⟨w, (linesP S).length, p⟩).1 = S then (⟨w, (linesP S).length, p⟩, 0) else (raZ, 30)
/-- A state that is none. -/
theorem Le.bot {n k : Nat} {t : Nat → AV} {h : List (Nat × Blk)} {x : Aux} {s' : AState} (ht : t 100 = .ptr 999 0 0) (hk : k ≤ 999) : Le ⟨n, t, h, k, x⟩ s' := by
  rintro C a w ⟨β, hs⟩
  have h1 := hs.tm 100
  simp only [ht] at h1
  generalize a.tmps.getD 100 undef = v at h1
  cases h1 with
  | ptr hb =>
    have h2 := hs.βlt _ _ hb
    simp only at h2
    omega
theorem Le.botS {n n' k : Nat} {t f : Nat → AV} {h : List (Nat × Blk)} {sv : List (Nat → AV)} {y : Option Yl} {s' : AState} (ht : f 100 = .ptr 999 0 0) (hk : k ≤ 999) : Le (Eng.hid n' ⟨n, t, h, k, ⟨f :: sv, y⟩⟩) s' := by
  rintro C a w ⟨β, hs⟩
  have hl := hs.sv.1
  have hlt : 0 < C.sv.length := by rw [← hl]; simp [Eng.hid]
  have h1 := hs.sv.2 0 f _ rfl (List.getElem?_eq_getElem hlt) 100
  rw [ht] at h1
  generalize C.sv[0] 100 = v at h1
  cases h1 with
  | ptr hb =>
    have h2 := hs.βlt _ _ hb
    simp only [Eng.hid] at h2
    omega
theorem splitA_le : ∀ (l : List UInt8), ∀ c ∈ splitA l, c.length ≤ l.length
  | [], c, h => by simp [splitA] at h; subst h; simp
  | b :: l, c, h => by
    have ih := splitA_le l
    unfold splitA at h
    split at h
    · rcases List.mem_cons.1 h with rfl | h
      · simp
      · have := ih c h; simp; omega
    · split at h
      · rw [List.mem_singleton.1 h]; simp
      · rename_i p ps e
        rcases List.mem_cons.1 h with rfl | h
        · have := ih p (e ▸ List.mem_cons_self ..); simp; omega
        · have := ih c (e ▸ List.mem_cons_of_mem _ h); simp; omega
theorem trimN_le (l : List UInt8) : (trimN l).length ≤ l.length := by
  unfold trimN
  split
  · rw [List.length_dropLast]; omega
  · exact Nat.le_refl _
theorem chunk2_len {α : Type} {l c : List α} (h : c ∈ chunkL 2 l) : c.length = 1 ∨ c.length = 2 := by
  unfold chunkL at h
  obtain ⟨i, hi, rfl⟩ := List.mem_map.1 h
  have := (chunk_lt (n := 2) (q := i) (L := l.length) (by omega)).2 (List.mem_range.1 hi)
  rw [List.length_take, List.length_drop]
  omega
theorem goPairs_bad : ∀ (cs : List (List UInt8)) (p : List Int), (∃ c ∈ cs, (inkP c).2 = false) → goPairs cs p = none
  | [], _, h => by obtain ⟨c, hc, _⟩ := h; simp at hc
  | c :: cs, p, h => by
    unfold goPairs
    split
    · rename_i hc
      refine goPairs_bad cs _ ?_
      obtain ⟨d, hd, hd2⟩ := h
      rcases List.mem_cons.1 hd with rfl | hd
      · rw [hc] at hd2; cases hd2
      · exact ⟨d, hd, hd2⟩
    · rfl
theorem goPairs_good : ∀ (cs : List (List UInt8)) (p : List Int), (∀ c ∈ cs, (inkP c).2 = true) → goPairs cs p = some (p ++ cs.map fun c => (inkP c).1)
  | [], p, _ => by simp [goPairs]
  | c :: cs, p, h => by
    unfold goPairs
    rw [if_pos (h c (List.mem_cons_self ..)), goPairs_good cs _ (fun d hd => h d (List.mem_cons_of_mem _ hd))]
    simp
abbrev toI (l : List UInt8) : List Int := l.map fun b => (b.toNat : Int)
theorem byC_px (l : List UInt8) : byC l = pxC (toI l) := by simp [byC, pxC, toI]
theorem ofI_toI (l : List UInt8) : ((toI l).map fun n => UInt8.ofNat n.toNat) = l := by
  unfold toI
  rw [List.map_map]
  conv => rhs; rw [← List.map_id l]
  exact List.map_congr_left fun b _ => by simp
theorem rev0 : PFun Tryd.prog 55 [.ro 1 []] (.t []) := by
  have w0 : wr (0 - 1) = -1 := by decide
  refine PFun.intro 400 mixed Tryd.func55 (by kernel_rfl) rfl (by first | exact .v _ | (simp [Cl_v, Cl_t, Cl_g, Cl_fn, Cl_rp, Cl_ro]; done) | (simp [Cl_v, Cl_t, Cl_g, Cl_fn, Cl_rp, Cl_ro, or_imp, forall_and]; done) | (split <;> simp [Cl_v, Cl_t, Cl_g, Cl_fn, Cl_rp, Cl_ro])) (Nat.le_of_ble_eq_true rfl) ?_; rw [Tryd.ntmps55, Tryd.results55]
  simp -dsimp -implicitDefEqProofs (maxSteps := 1000000) only [go_sem, ↓reduceIte, Nat.reduceAdd, Nat.reduceSub, Nat.reduceMul, Nat.reduceLT, Nat.reduceLeDiff, Nat.reduceEqDiff, Nat.reduceBEq, Nat.reduceBNe, Int.reduceToNat, Int.reduceLT, Int.reduceLE, Int.reduceNeg, reduceCtorEq, Int.reduceEq, Int.reduceNe, w0]
  refine ⟨Unit, fun _ => ⟨28, tl [(2, I 0), (3, I (-1))], [], 0, .nil⟩, fun _ => 0, ⟨(), Le.tl (Ls := []) (y := none) [] (by simp -dsimp -implicitDefEqProofs (maxSteps := 1000000) only [go_sem, ↓reduceIte, Nat.reduceAdd, Nat.reduceSub, Nat.reduceMul, Nat.reduceLT, Nat.reduceLeDiff, Nat.reduceEqDiff, Nat.reduceBEq, Nat.reduceBNe, Int.reduceToNat, Int.reduceLT, Int.reduceLE, Int.reduceNeg, reduceCtorEq, Int.reduceEq, Int.reduceNe]) (by simp) (by simp) (by simp) trivial⟩, fun _ => ?_⟩
  simp -dsimp -implicitDefEqProofs (maxSteps := 1000000) only [go_sem, ↓reduceIte, Nat.reduceAdd, Nat.reduceSub, Nat.reduceMul, Nat.reduceLT, Nat.reduceLeDiff, Nat.reduceEqDiff, Nat.reduceBEq, Nat.reduceBNe, Int.reduceToNat, Int.reduceLT, Int.reduceLE, Int.reduceNeg, reduceCtorEq, Int.reduceEq, Int.reduceNe]
/-- A call of a pure function that reads own blocks, and whose answer is a few plain values: the blocks stay. -/
theorem AtFn.keepT {P : Program} {rec : List It → (AState → Prop) → AState → Prop} {o : Oper} {f : FuncId} {as' al : List AV} {k : List It} {Q : AState → Prop} {s : AState} (us : List Value)
    (hfun : PFun P f as' (.t (us.map .v))) (hk : force (al.map (frzA (find s.h) 3)) fun y => y = as' ∧ (∀ a ∈ as', Cl a) ∧ force (putA s o.dst (.t (us.map .v))) fun s' => rec k Q s') : AtFn P rec o f al k Q s := by
  obtain ⟨h1, h2, h3⟩ := hk
  refine AtFn.keep' h1 rfl hfun (fun X X' w u h => ?_) h2 h3
  cases h with
  | t hl hR =>
    refine .t hl fun k s u hk hu => ?_
    have := hR k s u hk hu
    simp only [List.getElem?_map, Option.map_eq_some_iff] at hk
    obtain ⟨v, _, rfl⟩ := hk
    cases this
    exact .v _
theorem parse14 (S : List UInt8) (hS : S.length ≤ 1073741824) : PFun Tryd.prog 14 [Str S] (RE (parseP S)) := by
  unfold parseP
  by_cases hbig : 131328 < (S.length : Int)
  · rw [if_pos hbig]
    refine PFun.res ?_ (subO 30)
    refine PFun.intro 400 mixed Tryd.func14 (by kernel_rfl) rfl (by first | exact .v _ | (simp [Cl_v, Cl_t, Cl_g, Cl_fn, Cl_rp, Cl_ro]; done) | (simp [Cl_v, Cl_t, Cl_g, Cl_fn, Cl_rp, Cl_ro, or_imp, forall_and]; done) | (split <;> simp [Cl_v, Cl_t, Cl_g, Cl_fn, Cl_rp, Cl_ro])) (Nat.le_of_ble_eq_true rfl) ?_; rw [Tryd.ntmps14, Tryd.results14]
    simp -dsimp -implicitDefEqProofs (maxSteps := 1000000) only [go_sem, ↓reduceIte, Nat.reduceAdd, Nat.reduceSub, Nat.reduceMul, Nat.reduceLT, Nat.reduceLeDiff, Nat.reduceEqDiff, Nat.reduceBEq, Nat.reduceBNe, Int.reduceToNat, Int.reduceLT, Int.reduceLE, Int.reduceNeg, reduceCtorEq, Int.reduceEq, Int.reduceNe, size_str, hbig]
    refine AtFn.pure0 (none53 30) ?_
    simp -dsimp -implicitDefEqProofs (maxSteps := 1000000) only [go_sem, ↓reduceIte, Nat.reduceAdd, Nat.reduceSub, Nat.reduceMul, Nat.reduceLT, Nat.reduceLeDiff, Nat.reduceEqDiff, Nat.reduceBEq, Nat.reduceBNe, Int.reduceToNat, Int.reduceLT, Int.reduceLE, Int.reduceNeg, reduceCtorEq, Int.reduceEq, Int.reduceNe]
  rw [if_neg hbig]
  have h54 := split54 S hS
  have hnl : (splitA S).length ≤ S.length + 1 := by rw [splitA_len]; have := List.count_le_length (a := (10 : UInt8)) (l := S); omega
  have hn1 : 1 ≤ (splitA S).length := List.length_pos_iff.2 (splitA_ne S)
  have e1 := wrS1 hn1 (by omega)
  by_cases hL : linesP S = []
  · have : (splitA S).length = 1 := by
      have := congrArg List.length hL
      unfold linesP at this
      rw [List.length_reverse, List.length_dropLast, List.length_nil] at this
      omega
    have hp : (match goLines (linesP S) 0 [] with | none => (raZ, (30 : Int)) | some (w, p) => if (textP ⟨w, (linesP S).length, p⟩).2 = 0 ∧ (textP ⟨w, (linesP S).length, p⟩).1 = S then (⟨w, (linesP S).length, p⟩, 0) else (raZ, 30)) = (raZ, 30) := by
      rw [hL]
      rfl
    rw [hp]
    refine PFun.res ?_ (subO 30)
    refine PFun.introM 400 mixed Tryd.func14 (by kernel_rfl) rfl (by first | exact .v _ | (simp [Cl_v, Cl_t, Cl_g, Cl_fn, Cl_rp, Cl_ro]; done) | (simp [Cl_v, Cl_t, Cl_g, Cl_fn, Cl_rp, Cl_ro, or_imp, forall_and]; done) | (split <;> simp [Cl_v, Cl_t, Cl_g, Cl_fn, Cl_rp, Cl_ro])) (Nat.le_of_ble_eq_true rfl) ?_; rw [Tryd.ntmps14, Tryd.results14]
    simp -dsimp -implicitDefEqProofs (maxSteps := 1000000) only [go_sem, ↓reduceIte, Nat.reduceAdd, Nat.reduceSub, Nat.reduceMul, Nat.reduceLT, Nat.reduceLeDiff, Nat.reduceEqDiff, Nat.reduceBEq, Nat.reduceBNe, Int.reduceToNat, Int.reduceLT, Int.reduceLE, Int.reduceNeg, reduceCtorEq, Int.reduceEq, Int.reduceNe, size_str, hbig]
    refine AtFn.new h54 ?_
    have w0 : wr (1 - 1) = 0 := by decide
    simp -dsimp -implicitDefEqProofs (maxSteps := 1000000) only [go_sem, ↓reduceIte, Nat.reduceAdd, Nat.reduceSub, Nat.reduceMul, Nat.reduceLT, Nat.reduceLeDiff, Nat.reduceEqDiff, Nat.reduceBEq, Nat.reduceBNe, Int.reduceToNat, Int.reduceLT, Int.reduceLE, Int.reduceNeg, reduceCtorEq, Int.reduceEq, Int.reduceNe, List.length_map, e1, this, w0, Nat.zero_le]
    refine AtFn.keepT [] rev0 ?_
    simp -dsimp -implicitDefEqProofs (maxSteps := 1000000) only [go_sem, ↓reduceIte, Nat.reduceAdd, Nat.reduceSub, Nat.reduceMul, Nat.reduceLT, Nat.reduceLeDiff, Nat.reduceEqDiff, Nat.reduceBEq, Nat.reduceBNe, Int.reduceToNat, Int.reduceLT, Int.reduceLE, Int.reduceNeg, reduceCtorEq, Int.reduceEq, Int.reduceNe, List.length_map, this, Nat.zero_le, List.length_nil]
    refine ⟨Unit, fun _ => ⟨83, tl [(0, Str S), (2, .ptr 0 0 0), (3, .ptr 1 0 0), (5, .ptr 3 0 0), (32, I 0), (33, I 0)], [(3, ⟨3, [[I 0, I 0, .v (.slice none 0 0)]]⟩), (1, ⟨1, [[I 0]]⟩), (0, ⟨3, [[I 0, I 0, .v (.slice none 0 0)]]⟩)], 4, ⟨[], some (.mp none)⟩⟩, fun _ => 0,
      ⟨(), Le.tl (Ls := []) [] (by simp -dsimp -implicitDefEqProofs (maxSteps := 1000000) only [go_sem, ↓reduceIte, Nat.reduceAdd, Nat.reduceSub, Nat.reduceMul, Nat.reduceLT, Nat.reduceLeDiff, Nat.reduceEqDiff, Nat.reduceBEq, Nat.reduceBNe, Int.reduceToNat, Int.reduceLT, Int.reduceLE, Int.reduceNeg, reduceCtorEq, Int.reduceEq, Int.reduceNe]) ?_ (by simp) (by simp [sg]) trivial⟩, fun _ => ?_⟩
    · simp -dsimp -implicitDefEqProofs (maxSteps := 1000000) only [go_sem, ↓reduceIte, Nat.reduceAdd, Nat.reduceSub, Nat.reduceMul, Nat.reduceLT, Nat.reduceLeDiff, Nat.reduceEqDiff, Nat.reduceBEq, Nat.reduceBNe, Int.reduceToNat, Int.reduceLT, Int.reduceLE, Int.reduceNeg, reduceCtorEq, Int.reduceEq, Int.reduceNe]
      exact ⟨renL_F (by simp -dsimp -implicitDefEqProofs (maxSteps := 1000000) only [go_sem, ↓reduceIte, Nat.reduceAdd, Nat.reduceSub, Nat.reduceMul, Nat.reduceLT, Nat.reduceLeDiff, Nat.reduceEqDiff, Nat.reduceBEq, Nat.reduceBNe, Int.reduceToNat, Int.reduceLT, Int.reduceLE, Int.reduceNeg, reduceCtorEq, Int.reduceEq, Int.reduceNe]), renL_F (by simp -dsimp -implicitDefEqProofs (maxSteps := 1000000) only [go_sem, ↓reduceIte, Nat.reduceAdd, Nat.reduceSub, Nat.reduceMul, Nat.reduceLT, Nat.reduceLeDiff, Nat.reduceEqDiff, Nat.reduceBEq, Nat.reduceBNe, Int.reduceToNat, Int.reduceLT, Int.reduceLE, Int.reduceNeg, reduceCtorEq, Int.reduceEq, Int.reduceNe]), renL_F (by simp -dsimp -implicitDefEqProofs (maxSteps := 1000000) only [go_sem, ↓reduceIte, Nat.reduceAdd, Nat.reduceSub, Nat.reduceMul, Nat.reduceLT, Nat.reduceLeDiff, Nat.reduceEqDiff, Nat.reduceBEq, Nat.reduceBNe, Int.reduceToNat, Int.reduceLT, Int.reduceLE, Int.reduceNeg, reduceCtorEq, Int.reduceEq, Int.reduceNe])⟩
    simp -dsimp -implicitDefEqProofs (maxSteps := 1000000) only [go_sem, ↓reduceIte, Nat.reduceAdd, Nat.reduceSub, Nat.reduceMul, Nat.reduceLT, Nat.reduceLeDiff, Nat.reduceEqDiff, Nat.reduceBEq, Nat.reduceBNe, Int.reduceToNat, Int.reduceLT, Int.reduceLE, Int.reduceNeg, reduceCtorEq, Int.reduceEq, Int.reduceNe]
    have ht := text17 raZ (by intro x hx; simp at hx)
    have ht2 : PFun Tryd.prog 17 [raO] (.t (List.map AV.v [.string ⟨[].toArray⟩, .int .i64 2])) := PFun.sub ht (.cons (Sub.g (.cons (.refl _) (.cons (.refl _) (.cons (Sub.nil 1) .nil)))) .nil)
    refine AtFn.keepT _ ht2 ?_
    simp -dsimp -implicitDefEqProofs (maxSteps := 1000000) only [go_sem, ↓reduceIte, Nat.reduceAdd, Nat.reduceSub, Nat.reduceMul, Nat.reduceLT, Nat.reduceLeDiff, Nat.reduceEqDiff, Nat.reduceBEq, Nat.reduceBNe, Int.reduceToNat, Int.reduceLT, Int.reduceLE, Int.reduceNeg, reduceCtorEq, Int.reduceEq, Int.reduceNe]
    refine AtFn.pure0 (none53 30) ?_
    simp -dsimp -implicitDefEqProofs (maxSteps := 1000000) only [go_sem, ↓reduceIte, Nat.reduceAdd, Nat.reduceSub, Nat.reduceMul, Nat.reduceLT, Nat.reduceLeDiff, Nat.reduceEqDiff, Nat.reduceBEq, Nat.reduceBNe, Int.reduceToNat, Int.reduceLT, Int.reduceLE, Int.reduceNeg, reduceCtorEq, Int.reduceEq, Int.reduceNe]
  have hl1 : (splitA S).length = (linesP S).length + 1 := by
    unfold linesP
    rw [List.length_reverse, List.length_dropLast]; omega
  have hlp : 1 ≤ (linesP S).length := List.length_pos_iff.2 hL
  have hll : (linesP S).length ≤ 131329 := by omega
  obtain ⟨M, hM⟩ : ∃ M : Ra × Int, M = (match goLines (linesP S) 0 [] with | none => (raZ, (30 : Int)) | some (w, p) => if (textP ⟨w, (linesP S).length, p⟩).2 = 0 ∧ (textP ⟨w, (linesP S).length, p⟩).1 = S then (⟨w, (linesP S).length, p⟩, 0) else (raZ, 30)) := ⟨_, rfl⟩
  rw [← hM]
  obtain ⟨RR, hclR, hE, hO, hfin⟩ : ∃ RR : AV, Cl RR ∧ (M = (raZ, 30) → RR = .t [raO, I 30]) ∧ (M ≠ (raZ, 30) → RR = RE M) ∧ Sub RR (RE M) := by
    by_cases hm : M = (raZ, 30)
    · exact ⟨.t [raO, I 30], by simp [Cl_t, Cl_g, Cl_v], fun _ => rfl, fun h => absurd hm h, by rw [hm]; exact subO 30⟩
    · exact ⟨RE M, clRE _, fun h => absurd h hm, fun _ => rfl, .refl _⟩
  refine PFun.res ?_ hfin
  refine PFun.introM 400 mixed Tryd.func14 (by kernel_rfl) rfl (hclR) (Nat.le_of_ble_eq_true rfl) ?_; rw [Tryd.ntmps14, Tryd.results14]
  simp -dsimp -implicitDefEqProofs (maxSteps := 1000000) only [go_sem, ↓reduceIte, Nat.reduceAdd, Nat.reduceSub, Nat.reduceMul, Nat.reduceLT, Nat.reduceLeDiff, Nat.reduceEqDiff, Nat.reduceBEq, Nat.reduceBNe, Int.reduceToNat, Int.reduceLT, Int.reduceLE, Int.reduceNeg, reduceCtorEq, Int.reduceEq, Int.reduceNe, size_str, hbig]
  refine AtFn.new h54 ?_
  rw [hl1, Nat.add_sub_cancel] at e1
  have c1 : (linesP S).length ≤ (linesP S).length + 1 := by omega
  simp -dsimp -implicitDefEqProofs (maxSteps := 1000000) only [go_sem, ↓reduceIte, Nat.reduceAdd, Nat.reduceSub, Nat.reduceMul, Nat.reduceLT, Nat.reduceLeDiff, Nat.reduceEqDiff, Nat.reduceBEq, Nat.reduceBNe, Int.reduceToNat, Int.reduceLT, Int.reduceLE, Int.reduceNeg, reduceCtorEq, Int.reduceEq, Int.reduceNe, List.length_map, hl1, e1, Int.natCast_nonneg, Int.toNat_natCast, Nat.zero_le, c1]
  obtain ⟨D, hD⟩ : ∃ D, D = (splitA S).dropLast := ⟨_, rfl⟩
  have hLD : linesP S = D.reverse := by rw [hD]; rfl
  obtain ⟨L, hLL⟩ : ∃ L, L = linesP S := ⟨_, rfl⟩
  have hDl : D.length = L.length := by rw [hLL, hLD, List.length_reverse]
  have hD0 : D ≠ [] := by intro e; rw [e] at hDl; rw [← hLL] at hlp; simp at hDl; omega
  have hrv := reverse55 D hD0 (by rw [hDl, hLL]; omega)
  rw [← hLD, hDl] at hrv
  rw [← hLL] at hrv hlp hll hM ⊢
  have hcut : List.take L.length (List.map strC (splitA S)) = D.map strC := by
    rw [← List.map_take, hD, List.dropLast_eq_take, hl1, ← hLL, Nat.add_sub_cancel]
  refine AtFn.le ⟨83, tl [(0, Str S), (2, .ptr 1 0 0), (3, .ptr 2 0 0), (4, .sl 0 0 L.length), (26, .sl 0 0 L.length)], [(0, ⟨1, D.map strC⟩), (1, ⟨3, [[I 0, I 0, .v (.slice none 0 0)]]⟩), (2, ⟨1, [[I 0]]⟩)], 3, ⟨[], some (.mp none)⟩⟩ [.sl 0 0 L.length]
    ((Le.cut 2 L.length).trans (Le.tl (Ls := []) [(0, 2), (1, 0), (2, 1)] (by simp -dsimp -implicitDefEqProofs (maxSteps := 1000000) only [go_sem, ↓reduceIte, Nat.reduceAdd, Nat.reduceSub, Nat.reduceMul, Nat.reduceLT, Nat.reduceLeDiff, Nat.reduceEqDiff, Nat.reduceBEq, Nat.reduceBNe, Int.reduceToNat, Int.reduceLT, Int.reduceLE, Int.reduceNeg, reduceCtorEq, Int.reduceEq, Int.reduceNe, Nat.sub_zero]) ?_ (by simp) (by simp [sg]) trivial)) (by intro fo xs ts h; cases h; exact ⟨by simp -dsimp -implicitDefEqProofs (maxSteps := 1000000) only [go_sem, ↓reduceIte, Nat.reduceAdd, Nat.reduceSub, Nat.reduceMul, Nat.reduceLT, Nat.reduceLeDiff, Nat.reduceEqDiff, Nat.reduceBEq, Nat.reduceBNe, Int.reduceToNat, Int.reduceLT, Int.reduceLE, Int.reduceNeg, reduceCtorEq, Int.reduceEq, Int.reduceNe], by simp -dsimp -implicitDefEqProofs (maxSteps := 1000000) only [go_sem, ↓reduceIte, Nat.reduceAdd, Nat.reduceSub, Nat.reduceMul, Nat.reduceLT, Nat.reduceLeDiff, Nat.reduceEqDiff, Nat.reduceBEq, Nat.reduceBNe, Int.reduceToNat, Int.reduceLT, Int.reduceLE, Int.reduceNeg, reduceCtorEq, Int.reduceEq, Int.reduceNe]⟩) ?_
  · simp -dsimp -implicitDefEqProofs (maxSteps := 1000000) only [go_sem, ↓reduceIte, Nat.reduceAdd, Nat.reduceSub, Nat.reduceMul, Nat.reduceLT, Nat.reduceLeDiff, Nat.reduceEqDiff, Nat.reduceBEq, Nat.reduceBNe, Int.reduceToNat, Int.reduceLT, Int.reduceLE, Int.reduceNeg, reduceCtorEq, Int.reduceEq, Int.reduceNe, hcut]
    exact ⟨renL_cl2 rfl (clStr _), renL_F (by simp -dsimp -implicitDefEqProofs (maxSteps := 1000000) only [go_sem, ↓reduceIte, Nat.reduceAdd, Nat.reduceSub, Nat.reduceMul, Nat.reduceLT, Nat.reduceLeDiff, Nat.reduceEqDiff, Nat.reduceBEq, Nat.reduceBNe, Int.reduceToNat, Int.reduceLT, Int.reduceLE, Int.reduceNeg, reduceCtorEq, Int.reduceEq, Int.reduceNe]), renL_F (by simp -dsimp -implicitDefEqProofs (maxSteps := 1000000) only [go_sem, ↓reduceIte, Nat.reduceAdd, Nat.reduceSub, Nat.reduceMul, Nat.reduceLT, Nat.reduceLeDiff, Nat.reduceEqDiff, Nat.reduceBEq, Nat.reduceBNe, Int.reduceToNat, Int.reduceLT, Int.reduceLE, Int.reduceNeg, reduceCtorEq, Int.reduceEq, Int.reduceNe])⟩
  refine AtFn.m' (h0 := [(0, ⟨1, D.map strC⟩)]) (hr := [(1, ⟨3, [[I 0, I 0, .v (.slice none 0 0)]]⟩), (2, ⟨1, [[I 0]]⟩)]) (k' := 3) id hrv (MOk.id (Ls := []) (by simp) (by simp -dsimp -implicitDefEqProofs (maxSteps := 1000000) only [go_sem, ↓reduceIte, Nat.reduceAdd, Nat.reduceSub, Nat.reduceMul, Nat.reduceLT, Nat.reduceLeDiff, Nat.reduceEqDiff, Nat.reduceBEq, Nat.reduceBNe, Int.reduceToNat, Int.reduceLT, Int.reduceLE, Int.reduceNeg, reduceCtorEq, Int.reduceEq, Int.reduceNe, id_eq]) ?_ (by simp -dsimp -implicitDefEqProofs (maxSteps := 1000000) only [go_sem, ↓reduceIte, Nat.reduceAdd, Nat.reduceSub, Nat.reduceMul, Nat.reduceLT, Nat.reduceLeDiff, Nat.reduceEqDiff, Nat.reduceBEq, Nat.reduceBNe, Int.reduceToNat, Int.reduceLT, Int.reduceLE, Int.reduceNeg, reduceCtorEq, Int.reduceEq, Int.reduceNe, id_eq]) (by simp -dsimp -implicitDefEqProofs (maxSteps := 1000000) only [go_sem, ↓reduceIte, Nat.reduceAdd, Nat.reduceSub, Nat.reduceMul, Nat.reduceLT, Nat.reduceLeDiff, Nat.reduceEqDiff, Nat.reduceBEq, Nat.reduceBNe, Int.reduceToNat, Int.reduceLT, Int.reduceLE, Int.reduceNeg, reduceCtorEq, Int.reduceEq, Int.reduceNe, id_eq]) ?_ (by simp) ?_ (.cl (by simp [Cl_t])) (by simp) (by simp) (by simp)) ?_
  · simp -dsimp -implicitDefEqProofs (maxSteps := 1000000) only [go_sem, ↓reduceIte, Nat.reduceAdd, Nat.reduceSub, Nat.reduceMul, Nat.reduceLT, Nat.reduceLeDiff, Nat.reduceEqDiff, Nat.reduceBEq, Nat.reduceBNe, Int.reduceToNat, Int.reduceLT, Int.reduceLE, Int.reduceNeg, reduceCtorEq, Int.reduceEq, Int.reduceNe, id_eq]
    exact renL_cl2 rfl (clStr _)
  · simp -dsimp -implicitDefEqProofs (maxSteps := 1000000) only [go_sem, ↓reduceIte, Nat.reduceAdd, Nat.reduceSub, Nat.reduceMul, Nat.reduceLT, Nat.reduceLeDiff, Nat.reduceEqDiff, Nat.reduceBEq, Nat.reduceBNe, Int.reduceToNat, Int.reduceLT, Int.reduceLE, Int.reduceNeg, reduceCtorEq, Int.reduceEq, Int.reduceNe, id_eq]
    exact ⟨renL_F (by simp -dsimp -implicitDefEqProofs (maxSteps := 1000000) only [go_sem, ↓reduceIte, Nat.reduceAdd, Nat.reduceSub, Nat.reduceMul, Nat.reduceLT, Nat.reduceLeDiff, Nat.reduceEqDiff, Nat.reduceBEq, Nat.reduceBNe, Int.reduceToNat, Int.reduceLT, Int.reduceLE, Int.reduceNeg, reduceCtorEq, Int.reduceEq, Int.reduceNe]), renL_F (by simp -dsimp -implicitDefEqProofs (maxSteps := 1000000) only [go_sem, ↓reduceIte, Nat.reduceAdd, Nat.reduceSub, Nat.reduceMul, Nat.reduceLT, Nat.reduceLeDiff, Nat.reduceEqDiff, Nat.reduceBEq, Nat.reduceBNe, Int.reduceToNat, Int.reduceLT, Int.reduceLE, Int.reduceNeg, reduceCtorEq, Int.reduceEq, Int.reduceNe])⟩
  · simp -dsimp -implicitDefEqProofs (maxSteps := 1000000) only [go_sem, ↓reduceIte, Nat.reduceAdd, Nat.reduceSub, Nat.reduceMul, Nat.reduceLT, Nat.reduceLeDiff, Nat.reduceEqDiff, Nat.reduceBEq, Nat.reduceBNe, Int.reduceToNat, Int.reduceLT, Int.reduceLE, Int.reduceNeg, reduceCtorEq, Int.reduceEq, Int.reduceNe, id_eq]
    exact renL_cl2 rfl (clStr _)
  simp -dsimp -implicitDefEqProofs (maxSteps := 1000000) only [go_sem, ↓reduceIte, Nat.reduceAdd, Nat.reduceSub, Nat.reduceMul, Nat.reduceLT, Nat.reduceLeDiff, Nat.reduceEqDiff, Nat.reduceBEq, Nat.reduceBNe, Int.reduceToNat, Int.reduceLT, Int.reduceLE, Int.reduceNeg, reduceCtorEq, Int.reduceEq, Int.reduceNe]
  have hLle : ∀ l ∈ L, l.length ≤ 131328 := fun l hl => by
    rw [hLL, hLD] at hl
    have := splitA_le S l ((List.dropLast_sublist _).subset (hD ▸ List.mem_reverse.1 hl))
    omega
  obtain ⟨m, hm⟩ : ∃ m, m = L.length := ⟨_, rfl⟩
  rw [← hm] at hll hlp hM ⊢
  refine ⟨{q : Nat × Int × List Int // q.1 ≤ m ∧ goLines L 0 [] = goLines (L.drop q.1) q.2.1 q.2.2 ∧ q.2.2.length ≤ q.1 * 131328 ∧ okP q.2.2} ⊕ {u : Unit // M = (raZ, 30)},
    fun q => match q with
      | .inl q => ⟨83, tl [(0, Str S), (2, .ptr 1 0 0), (3, .ptr 2 0 0), (5, .ptr 3 0 0), (31, .sl 0 0 m), (32, I m), (33, I q.1.1)], [(3, ⟨3, [[I q.1.2.1, I m, .sl 4 0 q.1.2.2.length]]⟩), (0, ⟨1, L.map strC⟩), (1, ⟨3, [[I 0, I 0, .v (.slice none 0 0)]]⟩), (2, ⟨1, [[I 0]]⟩), (4, ⟨1, pxC q.1.2.2⟩)], 5, ⟨[], some (.mp none)⟩⟩
      | .inr _ => ⟨83, tl [(0, Str S), (2, .ptr 1 0 0), (3, .ptr 2 0 0), (5, .ptr 3 0 0), (32, I 0), (33, I 0)], [(3, ⟨3, [[I 0, I 0, .v (.slice none 0 0)]]⟩), (1, ⟨3, [[I 0, I 0, .v (.slice none 0 0)]]⟩), (2, ⟨1, [[I 0]]⟩)], 4, ⟨[], some (.mp none)⟩⟩,
    fun q => match q with | .inl q => m - q.1.1 + 1 | .inr _ => 0,
    ⟨.inl ⟨(0, 0, []), Nat.zero_le _, rfl, by simp, by intro x hx; simp at hx⟩, Le.tl0 (Ls := []) [] ?_ ?_ (by simp) (by simp [sg]) trivial⟩, fun q => ?_⟩
  · simp -dsimp -implicitDefEqProofs (maxSteps := 1000000) only [go_sem, ↓reduceIte, Nat.reduceAdd, Nat.reduceSub, Nat.reduceMul, Nat.reduceLT, Nat.reduceLeDiff, Nat.reduceEqDiff, Nat.reduceBEq, Nat.reduceBNe, Int.reduceToNat, Int.reduceLT, Int.reduceLE, Int.reduceNeg, reduceCtorEq, Int.reduceEq, Int.reduceNe]
  · simp -dsimp -implicitDefEqProofs (maxSteps := 1000000) only [go_sem, ↓reduceIte, Nat.reduceAdd, Nat.reduceSub, Nat.reduceMul, Nat.reduceLT, Nat.reduceLeDiff, Nat.reduceEqDiff, Nat.reduceBEq, Nat.reduceBNe, Int.reduceToNat, Int.reduceLT, Int.reduceLE, Int.reduceNeg, reduceCtorEq, Int.reduceEq, Int.reduceNe]
    exact ⟨renL_F (by simp -dsimp -implicitDefEqProofs (maxSteps := 1000000) only [go_sem, ↓reduceIte, Nat.reduceAdd, Nat.reduceSub, Nat.reduceMul, Nat.reduceLT, Nat.reduceLeDiff, Nat.reduceEqDiff, Nat.reduceBEq, Nat.reduceBNe, Int.reduceToNat, Int.reduceLT, Int.reduceLE, Int.reduceNeg, reduceCtorEq, Int.reduceEq, Int.reduceNe]), renL_cl2 rfl (clStr _), renL_F (by simp -dsimp -implicitDefEqProofs (maxSteps := 1000000) only [go_sem, ↓reduceIte, Nat.reduceAdd, Nat.reduceSub, Nat.reduceMul, Nat.reduceLT, Nat.reduceLeDiff, Nat.reduceEqDiff, Nat.reduceBEq, Nat.reduceBNe, Int.reduceToNat, Int.reduceLT, Int.reduceLE, Int.reduceNeg, reduceCtorEq, Int.reduceEq, Int.reduceNe]), renL_F (by simp -dsimp -implicitDefEqProofs (maxSteps := 1000000) only [go_sem, ↓reduceIte, Nat.reduceAdd, Nat.reduceSub, Nat.reduceMul, Nat.reduceLT, Nat.reduceLeDiff, Nat.reduceEqDiff, Nat.reduceBEq, Nat.reduceBNe, Int.reduceToNat, Int.reduceLT, Int.reduceLE, Int.reduceNeg, reduceCtorEq, Int.reduceEq, Int.reduceNe])⟩
  rcases q with ⟨⟨i, w, p⟩, hi, hgo, hpl, hokp⟩ | ⟨_, hMe⟩
  rotate_left
  · simp -dsimp -implicitDefEqProofs (maxSteps := 1000000) only [go_sem, ↓reduceIte, Nat.reduceAdd, Nat.reduceSub, Nat.reduceMul, Nat.reduceLT, Nat.reduceLeDiff, Nat.reduceEqDiff, Nat.reduceBEq, Nat.reduceBNe, Int.reduceToNat, Int.reduceLT, Int.reduceLE, Int.reduceNeg, reduceCtorEq, Int.reduceEq, Int.reduceNe]
    have ht := text17 raZ (by intro x hx; simp at hx)
    have ht2 : PFun Tryd.prog 17 [raO] (.t (List.map AV.v [.string ⟨[].toArray⟩, .int .i64 2])) := PFun.sub ht (.cons (Sub.g (.cons (.refl _) (.cons (.refl _) (.cons (Sub.nil 1) .nil)))) .nil)
    refine AtFn.keepT _ ht2 ?_
    simp -dsimp -implicitDefEqProofs (maxSteps := 1000000) only [go_sem, ↓reduceIte, Nat.reduceAdd, Nat.reduceSub, Nat.reduceMul, Nat.reduceLT, Nat.reduceLeDiff, Nat.reduceEqDiff, Nat.reduceBEq, Nat.reduceBNe, Int.reduceToNat, Int.reduceLT, Int.reduceLE, Int.reduceNeg, reduceCtorEq, Int.reduceEq, Int.reduceNe]
    refine AtFn.pure0 (none53 30) ?_
    simp -dsimp -implicitDefEqProofs (maxSteps := 1000000) only [go_sem, ↓reduceIte, Nat.reduceAdd, Nat.reduceSub, Nat.reduceMul, Nat.reduceLT, Nat.reduceLeDiff, Nat.reduceEqDiff, Nat.reduceBEq, Nat.reduceBNe, Int.reduceToNat, Int.reduceLT, Int.reduceLE, Int.reduceNeg, reduceCtorEq, Int.reduceEq, Int.reduceNe]
    rw [hE hMe]
  simp only at hi hgo hpl hokp
  simp -dsimp -implicitDefEqProofs (maxSteps := 1000000) only [go_sem, ↓reduceIte, Nat.reduceAdd, Nat.reduceSub, Nat.reduceMul, Nat.reduceLT, Nat.reduceLeDiff, Nat.reduceEqDiff, Nat.reduceBEq, Nat.reduceBNe, Int.reduceToNat, Int.reduceLT, Int.reduceLE, Int.reduceNeg, reduceCtorEq, Int.reduceEq, Int.reduceNe]
  refine ⟨fun hi' => ?_, fun hout => ?_⟩
  · have hil : i < m := by omega
    have ei := wrA1 (a := i) (by omega)
    obtain ⟨l, hl⟩ : ∃ l, L[i]? = some l := ⟨_, List.getElem?_eq_getElem (by omega)⟩
    have hll2 := hLle l (List.mem_of_getElem? hl)
    have htl := trimN_le l
    simp -dsimp -implicitDefEqProofs (maxSteps := 1000000) only [go_sem, ↓reduceIte, Nat.reduceAdd, Nat.reduceSub, Nat.reduceMul, Nat.reduceLT, Nat.reduceLeDiff, Nat.reduceEqDiff, Nat.reduceBEq, Nat.reduceBNe, Int.reduceToNat, Int.reduceLT, Int.reduceLE, Int.reduceNeg, reduceCtorEq, Int.reduceEq, Int.reduceNe, List.getElem?_map, hl, hi', Int.natCast_nonneg, Int.toNat_natCast, Nat.zero_add, List.length_map]
    refine AtFn.pure0 (trim57 l (by omega)) ?_
    simp -dsimp -implicitDefEqProofs (maxSteps := 1000000) only [go_sem, ↓reduceIte, Nat.reduceAdd, Nat.reduceSub, Nat.reduceMul, Nat.reduceLT, Nat.reduceLeDiff, Nat.reduceEqDiff, Nat.reduceBEq, Nat.reduceBNe, Int.reduceToNat, Int.reduceLT, Int.reduceLE, Int.reduceNeg, reduceCtorEq, Int.reduceEq, Int.reduceNe]
    refine AtOp.s2b (e := 5) rfl (by kernel_rfl) (by kernel_rfl) (by kernel_rfl) (by simp -dsimp -implicitDefEqProofs (maxSteps := 1000000) only [go_sem, ↓reduceIte, Nat.reduceAdd, Nat.reduceSub, Nat.reduceMul, Nat.reduceLT, Nat.reduceLeDiff, Nat.reduceEqDiff, Nat.reduceBEq, Nat.reduceBNe, Int.reduceToNat, Int.reduceLT, Int.reduceLE, Int.reduceNeg, reduceCtorEq, Int.reduceEq, Int.reduceNe]; rfl) ?_
    simp only [List.toList_toArray]
    rw [byC_px]
    simp -dsimp -implicitDefEqProofs (maxSteps := 1000000) only [go_sem, ↓reduceIte, Nat.reduceAdd, Nat.reduceSub, Nat.reduceMul, Nat.reduceLT, Nat.reduceLeDiff, Nat.reduceEqDiff, Nat.reduceBEq, Nat.reduceBNe, Int.reduceToNat, Int.reduceLT, Int.reduceLE, Int.reduceNeg, reduceCtorEq, Int.reduceEq, Int.reduceNe]
    refine AtFn.pure0 (chunk56 (toI (trimN l)) 2 (by omega)) ?_
    simp -dsimp -implicitDefEqProofs (maxSteps := 1000000) only [go_sem, ↓reduceIte, Nat.reduceAdd, Nat.reduceSub, Nat.reduceMul, Nat.reduceLT, Nat.reduceLeDiff, Nat.reduceEqDiff, Nat.reduceBEq, Nat.reduceBNe, Int.reduceToNat, Int.reduceLT, Int.reduceLE, Int.reduceNeg, reduceCtorEq, Int.reduceEq, Int.reduceNe]
    obtain ⟨cs, hcs⟩ : ∃ cs, cs = chunkL 2 (trimN l) := ⟨_, rfl⟩
    have hsq := chunk86 (toI (trimN l)) 2 (by omega) (by omega) (by simp [toI]; omega)
    have hxs : ((chunkL 2 (toI (trimN l))).map fun c => [AV.ro 1 (pxC c)]) = cs.map fun c => [AV.ro 1 (pxC (toI c))] := by
      rw [chunkL_map, List.map_map, hcs]; rfl
    rw [hxs] at hsq
    have hcl2 : cs.length ≤ 131328 := by
      rw [hcs, chunkL_len]; omega
    have hone : ∀ c ∈ cs, c.length = 1 ∨ c.length = 2 := fun c hc => chunk2_len (hcs ▸ hc)
    obtain ⟨qf, hqf⟩ : ∃ qf : Nat → List Int, qf = fun j => p ++ (cs.take j).map fun c => (inkP c).1 := ⟨_, rfl⟩
    obtain ⟨okf, hokf⟩ : ∃ okf : Nat → Bool, okf = fun j => (cs.take j).all fun c => (inkP c).2 := ⟨_, rfl⟩
    have hql : ∀ j, (qf j).length ≤ (i + 1) * 131328 := fun j => by
      rw [hqf, List.length_append, List.length_map, List.length_take, Nat.succ_mul]; omega
    have hq0 : qf 0 = p := by rw [hqf]; simp
    have hok0 : okf 0 = true := by rw [hokf]; simp
    have hbad : (∃ c ∈ cs, (inkP c).2 = false) → M = (raZ, 30) := fun h => by
      have hdrop : L.drop i = l :: L.drop (i + 1) := by
        have hlt : i < L.length := by omega
        rw [List.drop_eq_getElem_cons hlt]
        have := List.getElem?_eq_getElem hlt
        rw [hl] at this
        rw [← Option.some.inj this]
      rw [hM, hgo, hdrop, goLines, ← hcs, goPairs_bad cs p h]
    refine AtCode.rangeF 86 [.rp [.ro 1 (pxC (toI (trimN l)))] 0, .rp [I 2] 0] (cs.map fun c => [AV.ro 1 (pxC (toI c))]) [] (fun j => [(0, Str S), (2, .ptr 1 0 0), (3, .ptr 2 0 0), (5, .ptr 3 0 0), (31, .sl 0 0 m), (32, I m), (33, I i)] ++ (if okf j = true then [] else [(100, .ptr 999 0 0)])) (fun _ => [])
      (fun j => [(3, ⟨3, [[I w, I m, .sl 4 0 (qf j).length]]⟩), (0, ⟨1, L.map strC⟩), (1, ⟨3, [[I 0, I 0, .v (.slice none 0 0)]]⟩), (2, ⟨1, [[I 0]]⟩), (4, ⟨1, pxC (qf j)⟩)]) (fun _ => 5) [] ?_ ?_ (by simp [Cl_rp, Cl_ro, Cl_v, clPxT]) hsq ?_ rfl ?_ ?_ (by simp) (by simp [sg]) trivial ?_ ?_
    · simp -dsimp -implicitDefEqProofs (maxSteps := 1000000) only [go_sem, ↓reduceIte, Nat.reduceAdd, Nat.reduceSub, Nat.reduceMul, Nat.reduceLT, Nat.reduceLeDiff, Nat.reduceEqDiff, Nat.reduceBEq, Nat.reduceBNe, Int.reduceToNat, Int.reduceLT, Int.reduceLE, Int.reduceNeg, reduceCtorEq, Int.reduceEq, Int.reduceNe]
    · simp -dsimp -implicitDefEqProofs (maxSteps := 1000000) only [go_sem, ↓reduceIte, Nat.reduceAdd, Nat.reduceSub, Nat.reduceMul, Nat.reduceLT, Nat.reduceLeDiff, Nat.reduceEqDiff, Nat.reduceBEq, Nat.reduceBNe, Int.reduceToNat, Int.reduceLT, Int.reduceLE, Int.reduceNeg, reduceCtorEq, Int.reduceEq, Int.reduceNe]
    · intro bs hbs
      obtain ⟨c, _, rfl⟩ := List.mem_map.1 hbs
      rfl
    · simp only [hok0, if_true, List.append_nil]
      simp -dsimp -implicitDefEqProofs (maxSteps := 1000000) only [go_sem, ↓reduceIte, Nat.reduceAdd, Nat.reduceSub, Nat.reduceMul, Nat.reduceLT, Nat.reduceLeDiff, Nat.reduceEqDiff, Nat.reduceBEq, Nat.reduceBNe, Int.reduceToNat, Int.reduceLT, Int.reduceLE, Int.reduceNeg, reduceCtorEq, Int.reduceEq, Int.reduceNe]
    · simp only [hq0]
      simp -dsimp -implicitDefEqProofs (maxSteps := 1000000) only [go_sem, ↓reduceIte, Nat.reduceAdd, Nat.reduceSub, Nat.reduceMul, Nat.reduceLT, Nat.reduceLeDiff, Nat.reduceEqDiff, Nat.reduceBEq, Nat.reduceBNe, Int.reduceToNat, Int.reduceLT, Int.reduceLE, Int.reduceNeg, reduceCtorEq, Int.reduceEq, Int.reduceNe]
      exact ⟨renL_F (by simp -dsimp -implicitDefEqProofs (maxSteps := 1000000) only [go_sem, ↓reduceIte, Nat.reduceAdd, Nat.reduceSub, Nat.reduceMul, Nat.reduceLT, Nat.reduceLeDiff, Nat.reduceEqDiff, Nat.reduceBEq, Nat.reduceBNe, Int.reduceToNat, Int.reduceLT, Int.reduceLE, Int.reduceNeg, reduceCtorEq, Int.reduceEq, Int.reduceNe]), renL_cl2 rfl (clStr _), renL_F (by simp -dsimp -implicitDefEqProofs (maxSteps := 1000000) only [go_sem, ↓reduceIte, Nat.reduceAdd, Nat.reduceSub, Nat.reduceMul, Nat.reduceLT, Nat.reduceLeDiff, Nat.reduceEqDiff, Nat.reduceBEq, Nat.reduceBNe, Int.reduceToNat, Int.reduceLT, Int.reduceLE, Int.reduceNeg, reduceCtorEq, Int.reduceEq, Int.reduceNe]), renL_F (by simp -dsimp -implicitDefEqProofs (maxSteps := 1000000) only [go_sem, ↓reduceIte, Nat.reduceAdd, Nat.reduceSub, Nat.reduceMul, Nat.reduceLT, Nat.reduceLeDiff, Nat.reduceEqDiff, Nat.reduceBEq, Nat.reduceBNe, Int.reduceToNat, Int.reduceLT, Int.reduceLE, Int.reduceNeg, reduceCtorEq, Int.reduceEq, Int.reduceNe]), renL_cl2 rfl (clPx _)⟩
    · intro j bs hbs
      obtain ⟨c, hc, rfl⟩ : ∃ c, cs[j]? = some c ∧ [AV.ro 1 (pxC (toI c))] = bs := by simpa using hbs
      have hcm := List.mem_of_getElem? hc
      simp -dsimp -implicitDefEqProofs (maxSteps := 1000000) only [go_sem, ↓reduceIte, Nat.reduceAdd, Nat.reduceSub, Nat.reduceMul, Nat.reduceLT, Nat.reduceLeDiff, Nat.reduceEqDiff, Nat.reduceBEq, Nat.reduceBNe, Int.reduceToNat, Int.reduceLT, Int.reduceLE, Int.reduceNeg, reduceCtorEq, Int.reduceEq, Int.reduceNe]
      refine AtOp.b2s (e := 5) (l := toI c) rfl (by kernel_rfl) (by kernel_rfl) (by kernel_rfl) (by simp -dsimp -implicitDefEqProofs (maxSteps := 1000000) only [go_sem, ↓reduceIte, Nat.reduceAdd, Nat.reduceSub, Nat.reduceMul, Nat.reduceLT, Nat.reduceLeDiff, Nat.reduceEqDiff, Nat.reduceBEq, Nat.reduceBNe, Int.reduceToNat, Int.reduceLT, Int.reduceLE, Int.reduceNeg, reduceCtorEq, Int.reduceEq, Int.reduceNe]) ⟨rfl, rfl⟩ ?_
      rw [ofI_toI]
      simp -dsimp -implicitDefEqProofs (maxSteps := 1000000) only [go_sem, ↓reduceIte, Nat.reduceAdd, Nat.reduceSub, Nat.reduceMul, Nat.reduceLT, Nat.reduceLeDiff, Nat.reduceEqDiff, Nat.reduceBEq, Nat.reduceBNe, Int.reduceToNat, Int.reduceLT, Int.reduceLE, Int.reduceNeg, reduceCtorEq, Int.reduceEq, Int.reduceNe]
      refine AtFn.pure0 (inkOf58 c (hone c hcm)) ?_
      simp -dsimp -implicitDefEqProofs (maxSteps := 1000000) only [go_sem, ↓reduceIte, Nat.reduceAdd, Nat.reduceSub, Nat.reduceMul, Nat.reduceLT, Nat.reduceLeDiff, Nat.reduceEqDiff, Nat.reduceBEq, Nat.reduceBNe, Int.reduceToNat, Int.reduceLT, Int.reduceLE, Int.reduceNeg, reduceCtorEq, Int.reduceEq, Int.reduceNe]
      by_cases hok : (inkP c).2 = true
      · simp -dsimp -implicitDefEqProofs (maxSteps := 1000000) only [go_sem, ↓reduceIte, Nat.reduceAdd, Nat.reduceSub, Nat.reduceMul, Nat.reduceLT, Nat.reduceLeDiff, Nat.reduceEqDiff, Nat.reduceBEq, Nat.reduceBNe, Int.reduceToNat, Int.reduceLT, Int.reduceLE, Int.reduceNeg, reduceCtorEq, Int.reduceEq, Int.reduceNe, hok]
        refine AtOp.appE _ _ _ _ _ _ _ _ _ _ _ _ _ _ (by kernel_rfl) ?_
        have w1 : 0 + (qf j).length ≤ (pxC (qf j)).length := by rw [pxC_len]; omega
        have e5 : pxC (qf j) ++ [[AV.v (Value.int IntKind.u8 (inkP c).1)]] = pxC (qf (j + 1)) := by
          rw [hqf]
          simp only
          rw [List.take_add_one, hc]
          simp [pxC]
        have hqj := hql j
        simp -dsimp -implicitDefEqProofs (maxSteps := 1000000) only [go_sem, ↓reduceIte, Nat.reduceAdd, Nat.reduceSub, Nat.reduceMul, Nat.reduceLT, Nat.reduceLeDiff, Nat.reduceEqDiff, Nat.reduceBEq, Nat.reduceBNe, Int.reduceToNat, Int.reduceLT, Int.reduceLE, Int.reduceNeg, reduceCtorEq, Int.reduceEq, Int.reduceNe, pxC_len, takePx _ _ rfl, Nat.zero_add, Nat.le_refl, e5]
        refine ⟨by omega, ?_⟩
        by_cases hoj : okf j = true
        · have hoj1 : okf (j + 1) = true := by
            rw [hokf] at hoj ⊢
            simp only at hoj ⊢
            rw [List.take_add_one, hc, List.all_append, hoj]
            simp [hok]
          simp only [hoj, hoj1, if_true]
          refine Le.hid (Ls := []) [(4, 6)] (by simp -dsimp -implicitDefEqProofs (maxSteps := 1000000) only [go_sem, ↓reduceIte, Nat.reduceAdd, Nat.reduceSub, Nat.reduceMul, Nat.reduceLT, Nat.reduceLeDiff, Nat.reduceEqDiff, Nat.reduceBEq, Nat.reduceBNe, Int.reduceToNat, Int.reduceLT, Int.reduceLE, Int.reduceNeg, reduceCtorEq, Int.reduceEq, Int.reduceNe]) ?_ (by simp) (by simp [sg]) trivial
          simp -dsimp -implicitDefEqProofs (maxSteps := 1000000) only [go_sem, ↓reduceIte, Nat.reduceAdd, Nat.reduceSub, Nat.reduceMul, Nat.reduceLT, Nat.reduceLeDiff, Nat.reduceEqDiff, Nat.reduceBEq, Nat.reduceBNe, Int.reduceToNat, Int.reduceLT, Int.reduceLE, Int.reduceNeg, reduceCtorEq, Int.reduceEq, Int.reduceNe]
          exact ⟨renL_F (by simp -dsimp -implicitDefEqProofs (maxSteps := 1000000) only [go_sem, ↓reduceIte, Nat.reduceAdd, Nat.reduceSub, Nat.reduceMul, Nat.reduceLT, Nat.reduceLeDiff, Nat.reduceEqDiff, Nat.reduceBEq, Nat.reduceBNe, Int.reduceToNat, Int.reduceLT, Int.reduceLE, Int.reduceNeg, reduceCtorEq, Int.reduceEq, Int.reduceNe]), renL_cl2 rfl (clStr _), renL_F (by simp -dsimp -implicitDefEqProofs (maxSteps := 1000000) only [go_sem, ↓reduceIte, Nat.reduceAdd, Nat.reduceSub, Nat.reduceMul, Nat.reduceLT, Nat.reduceLeDiff, Nat.reduceEqDiff, Nat.reduceBEq, Nat.reduceBNe, Int.reduceToNat, Int.reduceLT, Int.reduceLE, Int.reduceNeg, reduceCtorEq, Int.reduceEq, Int.reduceNe]), renL_F (by simp -dsimp -implicitDefEqProofs (maxSteps := 1000000) only [go_sem, ↓reduceIte, Nat.reduceAdd, Nat.reduceSub, Nat.reduceMul, Nat.reduceLT, Nat.reduceLeDiff, Nat.reduceEqDiff, Nat.reduceBEq, Nat.reduceBNe, Int.reduceToNat, Int.reduceLT, Int.reduceLE, Int.reduceNeg, reduceCtorEq, Int.reduceEq, Int.reduceNe]), renL_cl2 rfl (clPx _)⟩
        · simp only [hoj]
          exact Le.botS (by simp -dsimp -implicitDefEqProofs (maxSteps := 1000000) only [go_sem, ↓reduceIte, Nat.reduceAdd, Nat.reduceSub, Nat.reduceMul, Nat.reduceLT, Nat.reduceLeDiff, Nat.reduceEqDiff, Nat.reduceBEq, Nat.reduceBNe, Int.reduceToNat, Int.reduceLT, Int.reduceLE, Int.reduceNeg, reduceCtorEq, Int.reduceEq, Int.reduceNe]) (by omega)
      · have hok : (inkP c).2 = false := by simpa using hok
        simp -dsimp -implicitDefEqProofs (maxSteps := 1000000) only [go_sem, ↓reduceIte, Nat.reduceAdd, Nat.reduceSub, Nat.reduceMul, Nat.reduceLT, Nat.reduceLeDiff, Nat.reduceEqDiff, Nat.reduceBEq, Nat.reduceBNe, Int.reduceToNat, Int.reduceLT, Int.reduceLE, Int.reduceNeg, reduceCtorEq, Int.reduceEq, Int.reduceNe, hok]
        refine AtFn.pure0 (none53 30) ?_
        simp -dsimp -implicitDefEqProofs (maxSteps := 1000000) only [go_sem, ↓reduceIte, Nat.reduceAdd, Nat.reduceSub, Nat.reduceMul, Nat.reduceLT, Nat.reduceLeDiff, Nat.reduceEqDiff, Nat.reduceBEq, Nat.reduceBNe, Int.reduceToNat, Int.reduceLT, Int.reduceLE, Int.reduceNeg, reduceCtorEq, Int.reduceEq, Int.reduceNe]
        rw [hE (hbad ⟨c, hcm, hok⟩)]
    · obtain ⟨P, hP⟩ : ∃ P, P = qf cs.length := ⟨_, rfl⟩
      have hPl : P.length ≤ (i + 1) * 131328 := hP ▸ hql _
      rw [List.length_map, ← hP]
      have hdrop : L.drop i = l :: L.drop (i + 1) := by
        have hlt : i < L.length := by omega
        rw [List.drop_eq_getElem_cons hlt]
        have := List.getElem?_eq_getElem hlt
        rw [hl] at this
        rw [← Option.some.inj this]
      by_cases hoka : okf cs.length = true
      · have hall : ∀ c ∈ cs, (inkP c).2 = true := by
          rw [hokf] at hoka
          simp only [List.take_length] at hoka
          exact fun c hc => List.all_eq_true.1 hoka c hc
        have hPe : P = p ++ cs.map fun c => (inkP c).1 := by rw [hP, hqf]; simp
        have hgo2 : goLines L 0 [] = goLines (L.drop (i + 1)) (if w = 0 then (P.length : Int) else w) P := by
          rw [hgo, hdrop, goLines, ← hcs, goPairs_good cs p hall, ← hPe]
        have hokP : okP P := by
          intro x hx
          rw [hPe] at hx
          rcases List.mem_append.1 hx with hx | hx
          · exact hokp x hx
          · obtain ⟨c, _, rfl⟩ := List.mem_map.1 hx
            exact inkP_bd
        simp only [hoka, if_true, List.append_nil]
        by_cases hw : w = 0
        · simp only [hw, if_true] at hgo2
          simp -dsimp -implicitDefEqProofs (maxSteps := 1000000) only [go_sem, ↓reduceIte, Nat.reduceAdd, Nat.reduceSub, Nat.reduceMul, Nat.reduceLT, Nat.reduceLeDiff, Nat.reduceEqDiff, Nat.reduceBEq, Nat.reduceBNe, Int.reduceToNat, Int.reduceLT, Int.reduceLE, Int.reduceNeg, reduceCtorEq, Int.reduceEq, Int.reduceNe, hw]
          refine ⟨.inl ⟨(i + 1, (P.length : Int), P), by omega, hgo2, hPl, hokP⟩, by show m - (i + 1) + 1 < m - i + 1; omega, Le.tl (Ls := []) [] (by simp -dsimp -implicitDefEqProofs (maxSteps := 1000000) only [go_sem, ↓reduceIte, Nat.reduceAdd, Nat.reduceSub, Nat.reduceMul, Nat.reduceLT, Nat.reduceLeDiff, Nat.reduceEqDiff, Nat.reduceBEq, Nat.reduceBNe, Int.reduceToNat, Int.reduceLT, Int.reduceLE, Int.reduceNeg, reduceCtorEq, Int.reduceEq, Int.reduceNe, ei]) ?_ (by simp) (by simp [sg]) trivial⟩
          simp -dsimp -implicitDefEqProofs (maxSteps := 1000000) only [go_sem, ↓reduceIte, Nat.reduceAdd, Nat.reduceSub, Nat.reduceMul, Nat.reduceLT, Nat.reduceLeDiff, Nat.reduceEqDiff, Nat.reduceBEq, Nat.reduceBNe, Int.reduceToNat, Int.reduceLT, Int.reduceLE, Int.reduceNeg, reduceCtorEq, Int.reduceEq, Int.reduceNe]
          exact ⟨renL_F (by simp -dsimp -implicitDefEqProofs (maxSteps := 1000000) only [go_sem, ↓reduceIte, Nat.reduceAdd, Nat.reduceSub, Nat.reduceMul, Nat.reduceLT, Nat.reduceLeDiff, Nat.reduceEqDiff, Nat.reduceBEq, Nat.reduceBNe, Int.reduceToNat, Int.reduceLT, Int.reduceLE, Int.reduceNeg, reduceCtorEq, Int.reduceEq, Int.reduceNe]), renL_cl2 rfl (clStr _), renL_F (by simp -dsimp -implicitDefEqProofs (maxSteps := 1000000) only [go_sem, ↓reduceIte, Nat.reduceAdd, Nat.reduceSub, Nat.reduceMul, Nat.reduceLT, Nat.reduceLeDiff, Nat.reduceEqDiff, Nat.reduceBEq, Nat.reduceBNe, Int.reduceToNat, Int.reduceLT, Int.reduceLE, Int.reduceNeg, reduceCtorEq, Int.reduceEq, Int.reduceNe]), renL_F (by simp -dsimp -implicitDefEqProofs (maxSteps := 1000000) only [go_sem, ↓reduceIte, Nat.reduceAdd, Nat.reduceSub, Nat.reduceMul, Nat.reduceLT, Nat.reduceLeDiff, Nat.reduceEqDiff, Nat.reduceBEq, Nat.reduceBNe, Int.reduceToNat, Int.reduceLT, Int.reduceLE, Int.reduceNeg, reduceCtorEq, Int.reduceEq, Int.reduceNe]), renL_cl2 rfl (clPx _)⟩
        · simp only [hw, if_false] at hgo2
          simp -dsimp -implicitDefEqProofs (maxSteps := 1000000) only [go_sem, ↓reduceIte, Nat.reduceAdd, Nat.reduceSub, Nat.reduceMul, Nat.reduceLT, Nat.reduceLeDiff, Nat.reduceEqDiff, Nat.reduceBEq, Nat.reduceBNe, Int.reduceToNat, Int.reduceLT, Int.reduceLE, Int.reduceNeg, reduceCtorEq, Int.reduceEq, Int.reduceNe, hw]
          refine ⟨.inl ⟨(i + 1, w, P), by omega, hgo2, hPl, hokP⟩, by show m - (i + 1) + 1 < m - i + 1; omega, Le.tl (Ls := []) [] (by simp -dsimp -implicitDefEqProofs (maxSteps := 1000000) only [go_sem, ↓reduceIte, Nat.reduceAdd, Nat.reduceSub, Nat.reduceMul, Nat.reduceLT, Nat.reduceLeDiff, Nat.reduceEqDiff, Nat.reduceBEq, Nat.reduceBNe, Int.reduceToNat, Int.reduceLT, Int.reduceLE, Int.reduceNeg, reduceCtorEq, Int.reduceEq, Int.reduceNe, ei]) ?_ (by simp) (by simp [sg]) trivial⟩
          simp -dsimp -implicitDefEqProofs (maxSteps := 1000000) only [go_sem, ↓reduceIte, Nat.reduceAdd, Nat.reduceSub, Nat.reduceMul, Nat.reduceLT, Nat.reduceLeDiff, Nat.reduceEqDiff, Nat.reduceBEq, Nat.reduceBNe, Int.reduceToNat, Int.reduceLT, Int.reduceLE, Int.reduceNeg, reduceCtorEq, Int.reduceEq, Int.reduceNe]
          exact ⟨renL_F (by simp -dsimp -implicitDefEqProofs (maxSteps := 1000000) only [go_sem, ↓reduceIte, Nat.reduceAdd, Nat.reduceSub, Nat.reduceMul, Nat.reduceLT, Nat.reduceLeDiff, Nat.reduceEqDiff, Nat.reduceBEq, Nat.reduceBNe, Int.reduceToNat, Int.reduceLT, Int.reduceLE, Int.reduceNeg, reduceCtorEq, Int.reduceEq, Int.reduceNe]), renL_cl2 rfl (clStr _), renL_F (by simp -dsimp -implicitDefEqProofs (maxSteps := 1000000) only [go_sem, ↓reduceIte, Nat.reduceAdd, Nat.reduceSub, Nat.reduceMul, Nat.reduceLT, Nat.reduceLeDiff, Nat.reduceEqDiff, Nat.reduceBEq, Nat.reduceBNe, Int.reduceToNat, Int.reduceLT, Int.reduceLE, Int.reduceNeg, reduceCtorEq, Int.reduceEq, Int.reduceNe]), renL_F (by simp -dsimp -implicitDefEqProofs (maxSteps := 1000000) only [go_sem, ↓reduceIte, Nat.reduceAdd, Nat.reduceSub, Nat.reduceMul, Nat.reduceLT, Nat.reduceLeDiff, Nat.reduceEqDiff, Nat.reduceBEq, Nat.reduceBNe, Int.reduceToNat, Int.reduceLT, Int.reduceLE, Int.reduceNeg, reduceCtorEq, Int.reduceEq, Int.reduceNe]), renL_cl2 rfl (clPx _)⟩
      · have hMe : M = (raZ, 30) := by
          refine hbad ?_
          rw [hokf] at hoka
          simp only [List.take_length] at hoka
          have : cs.all (fun c => (inkP c).2) = false := by simpa using hoka
          obtain ⟨c, hc, h2⟩ := List.all_eq_false.1 this
          exact ⟨c, hc, by simpa using h2⟩
        simp only [hoka]
        by_cases hw : w = 0
        · simp -dsimp -implicitDefEqProofs (maxSteps := 1000000) only [go_sem, ↓reduceIte, Nat.reduceAdd, Nat.reduceSub, Nat.reduceMul, Nat.reduceLT, Nat.reduceLeDiff, Nat.reduceEqDiff, Nat.reduceBEq, Nat.reduceBNe, Int.reduceToNat, Int.reduceLT, Int.reduceLE, Int.reduceNeg, reduceCtorEq, Int.reduceEq, Int.reduceNe, hw, Bool.false_eq_true]
          exact ⟨.inr ⟨(), hMe⟩, by show 0 < m - i + 1; omega, Le.bot (by simp -dsimp -implicitDefEqProofs (maxSteps := 1000000) only [go_sem, ↓reduceIte, Nat.reduceAdd, Nat.reduceSub, Nat.reduceMul, Nat.reduceLT, Nat.reduceLeDiff, Nat.reduceEqDiff, Nat.reduceBEq, Nat.reduceBNe, Int.reduceToNat, Int.reduceLT, Int.reduceLE, Int.reduceNeg, reduceCtorEq, Int.reduceEq, Int.reduceNe]) (by omega)⟩
        · simp -dsimp -implicitDefEqProofs (maxSteps := 1000000) only [go_sem, ↓reduceIte, Nat.reduceAdd, Nat.reduceSub, Nat.reduceMul, Nat.reduceLT, Nat.reduceLeDiff, Nat.reduceEqDiff, Nat.reduceBEq, Nat.reduceBNe, Int.reduceToNat, Int.reduceLT, Int.reduceLE, Int.reduceNeg, reduceCtorEq, Int.reduceEq, Int.reduceNe, hw, Bool.false_eq_true]
          exact ⟨.inr ⟨(), hMe⟩, by show 0 < m - i + 1; omega, Le.bot (by simp -dsimp -implicitDefEqProofs (maxSteps := 1000000) only [go_sem, ↓reduceIte, Nat.reduceAdd, Nat.reduceSub, Nat.reduceMul, Nat.reduceLT, Nat.reduceLeDiff, Nat.reduceEqDiff, Nat.reduceBEq, Nat.reduceBNe, Int.reduceToNat, Int.reduceLT, Int.reduceLE, Int.reduceNeg, reduceCtorEq, Int.reduceEq, Int.reduceNe]) (by omega)⟩
  · have him : i = m := by omega
    have hgm : goLines L 0 [] = some (w, p) := by
      rw [hgo, him, hm, List.drop_length]; rfl
    have ht := text17 ⟨w, m, p⟩ hokp
    have ht2 : PFun Tryd.prog 17 [.g [I w, I (m : Int), .ro 1 (pxC p)]] (.t (List.map AV.v [.string ⟨(textP ⟨w, m, p⟩).1.toArray⟩, .int .i64 (textP ⟨w, m, p⟩).2])) := ht
    rw [hgm] at hM
    simp only at hM
    refine AtFn.keepT _ ht2 ?_
    obtain ⟨T, e, hT⟩ : ∃ (T : List UInt8) (e : Int), textP ⟨w, m, p⟩ = (T, e) := ⟨_, _, rfl⟩
    rw [hT] at hM ⊢
    simp only at hM ⊢
    by_cases he : e = 0
    · by_cases hs : T = S
      · have hbs : (({ data := T.toArray } : ByteArray).toList == ({ data := S.toArray } : ByteArray).toList) = true := (str_eq T S).2 hs
        rw [if_pos ⟨he, hs⟩] at hM
        have hne : M ≠ (raZ, 30) := by rw [hM]; intro h; cases h
        simp -dsimp -implicitDefEqProofs (maxSteps := 1000000) only [go_sem, ↓reduceIte, Nat.reduceAdd, Nat.reduceSub, Nat.reduceMul, Nat.reduceLT, Nat.reduceLeDiff, Nat.reduceEqDiff, Nat.reduceBEq, Nat.reduceBNe, Int.reduceToNat, Int.reduceLT, Int.reduceLE, Int.reduceNeg, reduceCtorEq, Int.reduceEq, Int.reduceNe, pxC_len, takePx _ _ rfl, Nat.zero_add, Nat.le_refl, he, hbs]
        rw [hO hne, hM]
      · have hbs : (({ data := T.toArray } : ByteArray).toList == ({ data := S.toArray } : ByteArray).toList) = false := (str_eqF T S).2 hs
        rw [if_neg (fun h => hs h.2)] at hM
        simp -dsimp -implicitDefEqProofs (maxSteps := 1000000) only [go_sem, ↓reduceIte, Nat.reduceAdd, Nat.reduceSub, Nat.reduceMul, Nat.reduceLT, Nat.reduceLeDiff, Nat.reduceEqDiff, Nat.reduceBEq, Nat.reduceBNe, Int.reduceToNat, Int.reduceLT, Int.reduceLE, Int.reduceNeg, reduceCtorEq, Int.reduceEq, Int.reduceNe, pxC_len, takePx _ _ rfl, Nat.zero_add, Nat.le_refl, he, hbs]
        refine AtFn.pure0 (none53 30) ?_
        simp -dsimp -implicitDefEqProofs (maxSteps := 1000000) only [go_sem, ↓reduceIte, Nat.reduceAdd, Nat.reduceSub, Nat.reduceMul, Nat.reduceLT, Nat.reduceLeDiff, Nat.reduceEqDiff, Nat.reduceBEq, Nat.reduceBNe, Int.reduceToNat, Int.reduceLT, Int.reduceLE, Int.reduceNeg, reduceCtorEq, Int.reduceEq, Int.reduceNe]
        rw [hE hM]
    · rw [if_neg (fun h => he h.1)] at hM
      simp -dsimp -implicitDefEqProofs (maxSteps := 1000000) only [go_sem, ↓reduceIte, Nat.reduceAdd, Nat.reduceSub, Nat.reduceMul, Nat.reduceLT, Nat.reduceLeDiff, Nat.reduceEqDiff, Nat.reduceBEq, Nat.reduceBNe, Int.reduceToNat, Int.reduceLT, Int.reduceLE, Int.reduceNeg, reduceCtorEq, Int.reduceEq, Int.reduceNe, pxC_len, takePx _ _ rfl, Nat.zero_add, Nat.le_refl, he]
      refine AtFn.pure0 (none53 30) ?_
      simp -dsimp -implicitDefEqProofs (maxSteps := 1000000) only [go_sem, ↓reduceIte, Nat.reduceAdd, Nat.reduceSub, Nat.reduceMul, Nat.reduceLT, Nat.reduceLeDiff, Nat.reduceEqDiff, Nat.reduceBEq, Nat.reduceBNe, Int.reduceToNat, Int.reduceLT, Int.reduceLE, Int.reduceNeg, reduceCtorEq, Int.reduceEq, Int.reduceNe]
      rw [hE hM]
end

section
set_option maxRecDepth 20000
attribute [local go_sem] clPxT
theorem ofI_inj {a b : List Int} (ha : okP a) (hb : okP b) : ((a.map fun n => UInt8.ofNat n.toNat) = b.map fun n => UInt8.ofNat n.toNat) ↔ a = b := by
  refine ⟨fun h => ?_, fun h => by rw [h]⟩
  have key : ∀ (a : List Int), okP a → (a.map fun n => UInt8.ofNat n.toNat).map (fun c => (c.toNat : Int)) = a := by
    intro a ha
    rw [List.map_map]
    conv => rhs; rw [← List.map_id a]
    refine List.map_congr_left fun x hx => ?_
    have := ha x hx
    simp only [Function.comp, UInt8.toNat_ofNat', id]
    omega
  have := congrArg (List.map fun c : UInt8 => (c.toNat : Int)) h
  rwa [key a ha, key b hb] at this
def sameB (a b : Ra) : Bool := decide (a.w = b.w) && decide (a.h = b.h) && decide (a.p = b.p)
theorem same16 (a b : Ra) (ha : okP a.p) (hb : okP b.p) : PFun Tryd.prog 16 [RaA a, RaA b] (Bo (sameB a b)) := by
  obtain ⟨w, h, p⟩ := a
  obtain ⟨w', h', p'⟩ := b
  have hs : ∀ c, ((({ data := (p.map fun n => UInt8.ofNat n.toNat).toArray } : ByteArray).toList == ({ data := (p'.map fun n => UInt8.ofNat n.toNat).toArray } : ByteArray).toList) = c) → decide (p = p') = c := by
    intro c hc
    rw [← hc, Bool.eq_iff_iff, decide_eq_true_eq, str_eq, ofI_inj ha hb]
  refine PFun.intro 400 mixed Tryd.func16 (by kernel_rfl) rfl (by first | exact .v _ | (simp [Cl_v, Cl_t, Cl_g, Cl_fn, Cl_rp, Cl_ro]; done) | (simp [Cl_v, Cl_t, Cl_g, Cl_fn, Cl_rp, Cl_ro, or_imp, forall_and]; done) | (split <;> simp [Cl_v, Cl_t, Cl_g, Cl_fn, Cl_rp, Cl_ro])) (Nat.le_of_ble_eq_true rfl) ?_; rw [Tryd.ntmps16, Tryd.results16]
  simp -dsimp -implicitDefEqProofs (maxSteps := 1000000) only [go_sem, ↓reduceIte, Nat.reduceAdd, Nat.reduceSub, Nat.reduceMul, Nat.reduceLT, Nat.reduceLeDiff, Nat.reduceEqDiff, Nat.reduceBEq, Nat.reduceBNe, Int.reduceToNat, Int.reduceLT, Int.reduceLE, Int.reduceNeg, reduceCtorEq, Int.reduceEq, Int.reduceNe]
  refine ⟨fun h1 => ⟨fun h2 => ?_, fun h2 => ?_⟩, fun h1 => ?_⟩
  · refine AtOp.b2s (e := 5) (l := p) rfl (by kernel_rfl) (by kernel_rfl) (by kernel_rfl) (by simp -dsimp -implicitDefEqProofs (maxSteps := 1000000) only [go_sem, ↓reduceIte, Nat.reduceAdd, Nat.reduceSub, Nat.reduceMul, Nat.reduceLT, Nat.reduceLeDiff, Nat.reduceEqDiff, Nat.reduceBEq, Nat.reduceBNe, Int.reduceToNat, Int.reduceLT, Int.reduceLE, Int.reduceNeg, reduceCtorEq, Int.reduceEq, Int.reduceNe]) ⟨rfl, rfl⟩ ?_
    simp -dsimp -implicitDefEqProofs (maxSteps := 1000000) only [go_sem, ↓reduceIte, Nat.reduceAdd, Nat.reduceSub, Nat.reduceMul, Nat.reduceLT, Nat.reduceLeDiff, Nat.reduceEqDiff, Nat.reduceBEq, Nat.reduceBNe, Int.reduceToNat, Int.reduceLT, Int.reduceLE, Int.reduceNeg, reduceCtorEq, Int.reduceEq, Int.reduceNe]
    refine AtOp.b2s (e := 5) (l := p') rfl (by kernel_rfl) (by kernel_rfl) (by kernel_rfl) (by simp -dsimp -implicitDefEqProofs (maxSteps := 1000000) only [go_sem, ↓reduceIte, Nat.reduceAdd, Nat.reduceSub, Nat.reduceMul, Nat.reduceLT, Nat.reduceLeDiff, Nat.reduceEqDiff, Nat.reduceBEq, Nat.reduceBNe, Int.reduceToNat, Int.reduceLT, Int.reduceLE, Int.reduceNeg, reduceCtorEq, Int.reduceEq, Int.reduceNe]) ⟨rfl, rfl⟩ ?_
    simp -dsimp -implicitDefEqProofs (maxSteps := 1000000) only [go_sem, ↓reduceIte, Nat.reduceAdd, Nat.reduceSub, Nat.reduceMul, Nat.reduceLT, Nat.reduceLeDiff, Nat.reduceEqDiff, Nat.reduceBEq, Nat.reduceBNe, Int.reduceToNat, Int.reduceLT, Int.reduceLE, Int.reduceNeg, reduceCtorEq, Int.reduceEq, Int.reduceNe]
    have := hs _ rfl
    simp only [sameB, h1, h2, decide_true, Bool.true_and, this]
  · simp [sameB, h1, h2]
  · simp [sameB, h1]
def boxF (w h : Nat) (p : List Int) : Nat → Int × Int × Int × Int
  | 0 => (w, h, -1, -1)
  | k + 1 => if p.getD k 0 = 0 then boxF w h p k else (min (boxF w h p k).1 ((k % w : Nat) : Int), min (boxF w h p k).2.1 ((k / w : Nat) : Int), max (boxF w h p k).2.2.1 ((k % w : Nat) : Int), max (boxF w h p k).2.2.2 ((k / w : Nat) : Int))
def boxE (s : Int × Int × Int × Int) : (Int × Int × Int × Int) × Int := if s.2.2.1 < 0 then ((0, 0, 0, 0), 4) else ((s.1, s.2.1, wr (wr (s.2.2.1 - s.1) + 1), wr (wr (s.2.2.2 - s.2.1) + 1)), 0)
def boxP (r : Ra) : (Int × Int × Int × Int) × Int := if vaB r then boxE (boxF r.w.toNat r.h.toNat r.p r.p.length) else ((0, 0, 0, 0), 2)
abbrev BxA (x : (Int × Int × Int × Int) × Int) : AV := .t [.g [I x.1.1, I x.1.2.1, I x.1.2.2.1, I x.1.2.2.2], I x.2]
theorem clBx (x : (Int × Int × Int × Int) × Int) : Cl (BxA x) := by simp [Cl_t, Cl_g, Cl_v]
theorem box19 (r : Ra) (hok : okP r.p) : PFun Tryd.prog 19 [RaA r] (BxA (boxP r)) := by
  have hv := valid62 r
  unfold boxP
  by_cases hc : vaB r = true
  · rw [if_pos hc]
    obtain ⟨w, h, p, rfl, w1, w2, h1, h2, hlen⟩ := vaR_of hc
    have hN := prodN w2 h2
    show PFun Tryd.prog 19 [RaA ⟨w, h, p⟩] (BxA (boxE (boxF w h p p.length)))
    have ew : ¬ (w : Int) = 0 := by omega
    refine PFun.intro 400 mixed Tryd.func19 (by kernel_rfl) rfl (clBx _) (Nat.le_of_ble_eq_true rfl) ?_; rw [Tryd.ntmps19, Tryd.results19]
    simp -dsimp -implicitDefEqProofs (maxSteps := 1000000) only [go_sem, ↓reduceIte, Nat.reduceAdd, Nat.reduceSub, Nat.reduceMul, Nat.reduceLT, Nat.reduceLeDiff, Nat.reduceEqDiff, Nat.reduceBEq, Nat.reduceBNe, Int.reduceToNat, Int.reduceLT, Int.reduceLE, Int.reduceNeg, reduceCtorEq, Int.reduceEq, Int.reduceNe]
    refine AtFn.pure0 hv ?_
    simp -dsimp -implicitDefEqProofs (maxSteps := 1000000) only [go_sem, ↓reduceIte, Nat.reduceAdd, Nat.reduceSub, Nat.reduceMul, Nat.reduceLT, Nat.reduceLeDiff, Nat.reduceEqDiff, Nat.reduceBEq, Nat.reduceBNe, Int.reduceToNat, Int.reduceLT, Int.reduceLE, Int.reduceNeg, reduceCtorEq, Int.reduceEq, Int.reduceNe, hc]
    refine AtCode.draw 8 [([], []), ([0], []), ([], []), ([2], []), ([0, 1], []), ([0, 1, 2, 3, 4], []), ([0, 1, 2, 3, 4, 5], []), ([0, 1, 2, 3, 4, 5, 6], [])] (by kernel_rfl) ?_
    simp -dsimp -implicitDefEqProofs (maxSteps := 1000000) only [go_sem, ↓reduceIte, Nat.reduceAdd, Nat.reduceSub, Nat.reduceMul, Nat.reduceLT, Nat.reduceLeDiff, Nat.reduceEqDiff, Nat.reduceBEq, Nat.reduceBNe, Int.reduceToNat, Int.reduceLT, Int.reduceLE, Int.reduceNeg, reduceCtorEq, Int.reduceEq, Int.reduceNe, pxC_len]
    refine ⟨{k : Nat // k ≤ p.length}, fun k => ⟨65, tl [(1, .ptr 0 0 0), (2, .ptr 1 0 0), (4, I (boxF w h p k.1).1), (5, I (boxF w h p k.1).2.1), (6, I (boxF w h p k.1).2.2.1), (7, I (boxF w h p k.1).2.2.2), (21, .ro 1 (pxC p)), (22, I p.length), (23, I k.1)], [(1, ⟨4, [[I 0, I 0, I 0, I 0]]⟩), (0, ⟨3, [[I w, I h, .ro 1 (pxC p)]]⟩)], 2, .nil⟩, fun k => p.length - k.1,
      ⟨⟨0, by omega⟩, Le.tl (Ls := []) (y := none) [] (by simp -dsimp -implicitDefEqProofs (maxSteps := 1000000) only [go_sem, ↓reduceIte, Nat.reduceAdd, Nat.reduceSub, Nat.reduceMul, Nat.reduceLT, Nat.reduceLeDiff, Nat.reduceEqDiff, Nat.reduceBEq, Nat.reduceBNe, Int.reduceToNat, Int.reduceLT, Int.reduceLE, Int.reduceNeg, reduceCtorEq, Int.reduceEq, Int.reduceNe, boxF]) ?_ (by simp) (by simp [sg]) trivial⟩, fun k => ?_⟩
    · simp -dsimp -implicitDefEqProofs (maxSteps := 1000000) only [go_sem, ↓reduceIte, Nat.reduceAdd, Nat.reduceSub, Nat.reduceMul, Nat.reduceLT, Nat.reduceLeDiff, Nat.reduceEqDiff, Nat.reduceBEq, Nat.reduceBNe, Int.reduceToNat, Int.reduceLT, Int.reduceLE, Int.reduceNeg, reduceCtorEq, Int.reduceEq, Int.reduceNe]
      exact ⟨renL_F (by simp -dsimp -implicitDefEqProofs (maxSteps := 1000000) only [go_sem, ↓reduceIte, Nat.reduceAdd, Nat.reduceSub, Nat.reduceMul, Nat.reduceLT, Nat.reduceLeDiff, Nat.reduceEqDiff, Nat.reduceBEq, Nat.reduceBNe, Int.reduceToNat, Int.reduceLT, Int.reduceLE, Int.reduceNeg, reduceCtorEq, Int.reduceEq, Int.reduceNe]), renL_F (by simp -dsimp -implicitDefEqProofs (maxSteps := 1000000) only [go_sem, ↓reduceIte, Nat.reduceAdd, Nat.reduceSub, Nat.reduceMul, Nat.reduceLT, Nat.reduceLeDiff, Nat.reduceEqDiff, Nat.reduceBEq, Nat.reduceBNe, Int.reduceToNat, Int.reduceLT, Int.reduceLE, Int.reduceNeg, reduceCtorEq, Int.reduceEq, Int.reduceNe])⟩
    obtain ⟨k, hk⟩ := k
    simp -dsimp -implicitDefEqProofs (maxSteps := 1000000) only [go_sem, ↓reduceIte, Nat.reduceAdd, Nat.reduceSub, Nat.reduceMul, Nat.reduceLT, Nat.reduceLeDiff, Nat.reduceEqDiff, Nat.reduceBEq, Nat.reduceBNe, Int.reduceToNat, Int.reduceLT, Int.reduceLE, Int.reduceNeg, reduceCtorEq, Int.reduceEq, Int.reduceNe, pxC_len]
    refine ⟨fun hk' => ?_, fun hout => ?_⟩
    · have hkl : k < p.length := by omega
      have ek := wrA1 (a := k) (by omega)
      have g1 := getD_some hkl
      have hx := hok _ (List.mem_of_getElem? g1)
      have hq : k / w ≤ k := Nat.div_le_self _ _
      have e4 : wr ((k / w : Nat) : Int) = ((k / w : Nat) : Int) := wrN (by omega)
      simp -dsimp -implicitDefEqProofs (maxSteps := 1000000) only [go_sem, ↓reduceIte, Nat.reduceAdd, Nat.reduceSub, Nat.reduceMul, Nat.reduceLT, Nat.reduceLeDiff, Nat.reduceEqDiff, Nat.reduceBEq, Nat.reduceBNe, Int.reduceToNat, Int.reduceLT, Int.reduceLE, Int.reduceNeg, reduceCtorEq, Int.reduceEq, Int.reduceNe, pxC_get, g1, Int.natCast_nonneg, Int.toNat_natCast, Nat.zero_add]
      refine AtCode.draw 10 [([], []), ([], []), ([1], []), ([0, 1, 2], []), ([], []), ([], []), ([5], []), ([4, 5, 6], []), ([0, 1, 2, 3], []), ([0, 1, 2, 3, 4, 5, 6, 7, 8], [])] (by kernel_rfl) ?_
      by_cases hx0 : p.getD k 0 = 0
      · have f1 : ¬ 0 < p.getD k 0 := by omega
        have eb : boxF w h p (k + 1) = boxF w h p k := by rw [boxF, if_pos hx0]
        simp -dsimp -implicitDefEqProofs (maxSteps := 1000000) only [go_sem, ↓reduceIte, Nat.reduceAdd, Nat.reduceSub, Nat.reduceMul, Nat.reduceLT, Nat.reduceLeDiff, Nat.reduceEqDiff, Nat.reduceBEq, Nat.reduceBNe, Int.reduceToNat, Int.reduceLT, Int.reduceLE, Int.reduceNeg, reduceCtorEq, Int.reduceEq, Int.reduceNe, tmodN, tdivN, ew, e4, f1]
        refine ⟨⟨k + 1, by omega⟩, by show p.length - (k + 1) < p.length - k; omega, Le.tl (Ls := []) (y := none) [] (by simp -dsimp -implicitDefEqProofs (maxSteps := 1000000) only [go_sem, ↓reduceIte, Nat.reduceAdd, Nat.reduceSub, Nat.reduceMul, Nat.reduceLT, Nat.reduceLeDiff, Nat.reduceEqDiff, Nat.reduceBEq, Nat.reduceBNe, Int.reduceToNat, Int.reduceLT, Int.reduceLE, Int.reduceNeg, reduceCtorEq, Int.reduceEq, Int.reduceNe, ek, eb]) ?_ (by simp) (by simp [sg]) trivial⟩
        simp -dsimp -implicitDefEqProofs (maxSteps := 1000000) only [go_sem, ↓reduceIte, Nat.reduceAdd, Nat.reduceSub, Nat.reduceMul, Nat.reduceLT, Nat.reduceLeDiff, Nat.reduceEqDiff, Nat.reduceBEq, Nat.reduceBNe, Int.reduceToNat, Int.reduceLT, Int.reduceLE, Int.reduceNeg, reduceCtorEq, Int.reduceEq, Int.reduceNe]
        exact ⟨renL_F (by simp -dsimp -implicitDefEqProofs (maxSteps := 1000000) only [go_sem, ↓reduceIte, Nat.reduceAdd, Nat.reduceSub, Nat.reduceMul, Nat.reduceLT, Nat.reduceLeDiff, Nat.reduceEqDiff, Nat.reduceBEq, Nat.reduceBNe, Int.reduceToNat, Int.reduceLT, Int.reduceLE, Int.reduceNeg, reduceCtorEq, Int.reduceEq, Int.reduceNe]), renL_F (by simp -dsimp -implicitDefEqProofs (maxSteps := 1000000) only [go_sem, ↓reduceIte, Nat.reduceAdd, Nat.reduceSub, Nat.reduceMul, Nat.reduceLT, Nat.reduceLeDiff, Nat.reduceEqDiff, Nat.reduceBEq, Nat.reduceBNe, Int.reduceToNat, Int.reduceLT, Int.reduceLE, Int.reduceNeg, reduceCtorEq, Int.reduceEq, Int.reduceNe])⟩
      · have f1 : 0 < p.getD k 0 := by omega
        have eb : boxF w h p (k + 1) = (min (boxF w h p k).1 ((k % w : Nat) : Int), min (boxF w h p k).2.1 ((k / w : Nat) : Int), max (boxF w h p k).2.2.1 ((k % w : Nat) : Int), max (boxF w h p k).2.2.2 ((k / w : Nat) : Int)) := by rw [boxF, if_neg hx0]
        simp -dsimp -implicitDefEqProofs (maxSteps := 1000000) only [go_sem, ↓reduceIte, Nat.reduceAdd, Nat.reduceSub, Nat.reduceMul, Nat.reduceLT, Nat.reduceLeDiff, Nat.reduceEqDiff, Nat.reduceBEq, Nat.reduceBNe, Int.reduceToNat, Int.reduceLT, Int.reduceLE, Int.reduceNeg, reduceCtorEq, Int.reduceEq, Int.reduceNe, tmodN, tdivN, ew, e4, f1]
        refine ⟨⟨k + 1, by omega⟩, by show p.length - (k + 1) < p.length - k; omega, Le.tl (Ls := []) (y := none) [] (by simp -dsimp -implicitDefEqProofs (maxSteps := 1000000) only [go_sem, ↓reduceIte, Nat.reduceAdd, Nat.reduceSub, Nat.reduceMul, Nat.reduceLT, Nat.reduceLeDiff, Nat.reduceEqDiff, Nat.reduceBEq, Nat.reduceBNe, Int.reduceToNat, Int.reduceLT, Int.reduceLE, Int.reduceNeg, reduceCtorEq, Int.reduceEq, Int.reduceNe, ek, eb]) ?_ (by simp) (by simp [sg]) trivial⟩
        simp -dsimp -implicitDefEqProofs (maxSteps := 1000000) only [go_sem, ↓reduceIte, Nat.reduceAdd, Nat.reduceSub, Nat.reduceMul, Nat.reduceLT, Nat.reduceLeDiff, Nat.reduceEqDiff, Nat.reduceBEq, Nat.reduceBNe, Int.reduceToNat, Int.reduceLT, Int.reduceLE, Int.reduceNeg, reduceCtorEq, Int.reduceEq, Int.reduceNe]
        exact ⟨renL_F (by simp -dsimp -implicitDefEqProofs (maxSteps := 1000000) only [go_sem, ↓reduceIte, Nat.reduceAdd, Nat.reduceSub, Nat.reduceMul, Nat.reduceLT, Nat.reduceLeDiff, Nat.reduceEqDiff, Nat.reduceBEq, Nat.reduceBNe, Int.reduceToNat, Int.reduceLT, Int.reduceLE, Int.reduceNeg, reduceCtorEq, Int.reduceEq, Int.reduceNe]), renL_F (by simp -dsimp -implicitDefEqProofs (maxSteps := 1000000) only [go_sem, ↓reduceIte, Nat.reduceAdd, Nat.reduceSub, Nat.reduceMul, Nat.reduceLT, Nat.reduceLeDiff, Nat.reduceEqDiff, Nat.reduceBEq, Nat.reduceBNe, Int.reduceToNat, Int.reduceLT, Int.reduceLE, Int.reduceNeg, reduceCtorEq, Int.reduceEq, Int.reduceNe])⟩
    · obtain rfl : k = p.length := by omega
      unfold boxE
      refine ⟨fun h => ?_, fun h => ?_⟩
      · rw [if_pos h]
      · rw [if_neg h]
  · have hc' : vaB r = false := by simpa using hc
    rw [if_neg hc]
    obtain ⟨w, h, p⟩ := r
    refine PFun.intro 400 mixed Tryd.func19 (by kernel_rfl) rfl (by first | exact .v _ | (simp [Cl_v, Cl_t, Cl_g, Cl_fn, Cl_rp, Cl_ro]; done) | (simp [Cl_v, Cl_t, Cl_g, Cl_fn, Cl_rp, Cl_ro, or_imp, forall_and]; done) | (split <;> simp [Cl_v, Cl_t, Cl_g, Cl_fn, Cl_rp, Cl_ro])) (Nat.le_of_ble_eq_true rfl) ?_; rw [Tryd.ntmps19, Tryd.results19]
    simp -dsimp -implicitDefEqProofs (maxSteps := 1000000) only [go_sem, ↓reduceIte, Nat.reduceAdd, Nat.reduceSub, Nat.reduceMul, Nat.reduceLT, Nat.reduceLeDiff, Nat.reduceEqDiff, Nat.reduceBEq, Nat.reduceBNe, Int.reduceToNat, Int.reduceLT, Int.reduceLE, Int.reduceNeg, reduceCtorEq, Int.reduceEq, Int.reduceNe]
    refine AtFn.pure0 hv ?_
    simp -dsimp -implicitDefEqProofs (maxSteps := 1000000) only [go_sem, ↓reduceIte, Nat.reduceAdd, Nat.reduceSub, Nat.reduceMul, Nat.reduceLT, Nat.reduceLeDiff, Nat.reduceEqDiff, Nat.reduceBEq, Nat.reduceBNe, Int.reduceToNat, Int.reduceLT, Int.reduceLE, Int.reduceNeg, reduceCtorEq, Int.reduceEq, Int.reduceNe, hc']
end

section
set_option maxRecDepth 20000
attribute [local go_sem] clPxT
theorem find_some {P : Nat → Bool} {n k : Nat} (hk : k < n) (h : P k = true) (hall : ∀ j, j < k → P j = false) : (List.range n).find? P = some k := by
  rw [List.find?_range_eq_some]
  exact ⟨h, by simpa using hk, fun j hj => by simp [hall j hj]⟩
theorem find_none {P : Nat → Bool} {n : Nat} (hall : ∀ j, j < n → P j = false) : (List.range n).find? P = none := by
  rw [List.find?_range_eq_none]
  exact fun j hj => by simp [hall j (by simpa using hj)]
def diffF (w : Nat) (p q : List Int) : (Int × Int) × Int :=
  match (List.range p.length).find? fun k => decide (¬ p.getD k 0 = q.getD k 0) with
  | some k => ((((k % w : Nat) : Int), ((k / w : Nat) : Int)), 0)
  | none => ((0, 0), 4)
def diffP (a b : Ra) : (Int × Int) × Int := if vaB a && vaB b then (if a.w = b.w ∧ a.h = b.h then diffF a.w.toNat a.p b.p else ((0, 0), 5)) else ((0, 0), 2)
abbrev D2 (x : (Int × Int) × Int) : AV := .t [.g [I x.1.1, I x.1.2], I x.2]
theorem clD2 (x : (Int × Int) × Int) : Cl (D2 x) := by simp [Cl_t, Cl_g, Cl_v]
theorem diff31 (a b : Ra) : PFun Tryd.prog 31 [RaA a, RaA b] (D2 (diffP a b)) := by
  have hva := valid62 a
  have hvb := valid62 b
  unfold diffP
  by_cases ha : vaB a = true
  · by_cases hb : vaB b = true
    · rw [if_pos (by rw [ha, hb]; rfl)]
      obtain ⟨w, h, p, rfl, w1, w2, h1, h2, hlen⟩ := vaR_of ha
      obtain ⟨w', h', q, rfl, w1', w2', h1', h2', hlen'⟩ := vaR_of hb
      have hN := prodN w2 h2
      simp only [Int.toNat_natCast]
      by_cases hw : (w : Int) = w'
      · by_cases hh : (h : Int) = h'
        · rw [if_pos ⟨hw, hh⟩]
          have hw : w = w' := by omega
          have hh : h = h' := by omega
          subst hw; subst hh
          have ew : ¬ (w : Int) = 0 := by omega
          have e0 : ∀ x : Int, wr x = wr x := fun _ => rfl
          refine PFun.intro 400 mixed Tryd.func31 (by kernel_rfl) rfl (clD2 _) (Nat.le_of_ble_eq_true rfl) ?_; rw [Tryd.ntmps31, Tryd.results31]
          simp -dsimp -implicitDefEqProofs (maxSteps := 1000000) only [go_sem, ↓reduceIte, Nat.reduceAdd, Nat.reduceSub, Nat.reduceMul, Nat.reduceLT, Nat.reduceLeDiff, Nat.reduceEqDiff, Nat.reduceBEq, Nat.reduceBNe, Int.reduceToNat, Int.reduceLT, Int.reduceLE, Int.reduceNeg, reduceCtorEq, Int.reduceEq, Int.reduceNe]
          refine AtFn.pure0 hva ?_
          simp -dsimp -implicitDefEqProofs (maxSteps := 1000000) only [go_sem, ↓reduceIte, Nat.reduceAdd, Nat.reduceSub, Nat.reduceMul, Nat.reduceLT, Nat.reduceLeDiff, Nat.reduceEqDiff, Nat.reduceBEq, Nat.reduceBNe, Int.reduceToNat, Int.reduceLT, Int.reduceLE, Int.reduceNeg, reduceCtorEq, Int.reduceEq, Int.reduceNe, ha]
          refine AtFn.pure0 hvb ?_
          simp -dsimp -implicitDefEqProofs (maxSteps := 1000000) only [go_sem, ↓reduceIte, Nat.reduceAdd, Nat.reduceSub, Nat.reduceMul, Nat.reduceLT, Nat.reduceLeDiff, Nat.reduceEqDiff, Nat.reduceBEq, Nat.reduceBNe, Int.reduceToNat, Int.reduceLT, Int.reduceLE, Int.reduceNeg, reduceCtorEq, Int.reduceEq, Int.reduceNe, hb, pxC_len]
          refine ⟨{k : Nat // k ≤ p.length ∧ ∀ j, j < k → p.getD j 0 = q.getD j 0}, fun k => ⟨59, tl [(2, .ptr 0 0 0), (3, .ptr 1 0 0), (4, .ptr 2 0 0), (5, I 0), (33, I p.length), (34, I k.1)], [(2, ⟨2, [[I 0, I 0]]⟩), (1, ⟨3, [[I w, I h, .ro 1 (pxC q)]]⟩), (0, ⟨3, [[I w, I h, .ro 1 (pxC p)]]⟩)], 3, .nil⟩, fun k => p.length - k.1,
            ⟨⟨0, by omega, fun j hj => absurd hj (Nat.not_lt_zero _)⟩, Le.tl (Ls := []) (y := none) [] (by simp -dsimp -implicitDefEqProofs (maxSteps := 1000000) only [go_sem, ↓reduceIte, Nat.reduceAdd, Nat.reduceSub, Nat.reduceMul, Nat.reduceLT, Nat.reduceLeDiff, Nat.reduceEqDiff, Nat.reduceBEq, Nat.reduceBNe, Int.reduceToNat, Int.reduceLT, Int.reduceLE, Int.reduceNeg, reduceCtorEq, Int.reduceEq, Int.reduceNe]) ?_ (by simp) (by simp [sg]) trivial⟩, fun k => ?_⟩
          · simp -dsimp -implicitDefEqProofs (maxSteps := 1000000) only [go_sem, ↓reduceIte, Nat.reduceAdd, Nat.reduceSub, Nat.reduceMul, Nat.reduceLT, Nat.reduceLeDiff, Nat.reduceEqDiff, Nat.reduceBEq, Nat.reduceBNe, Int.reduceToNat, Int.reduceLT, Int.reduceLE, Int.reduceNeg, reduceCtorEq, Int.reduceEq, Int.reduceNe]
            exact ⟨renL_F (by simp -dsimp -implicitDefEqProofs (maxSteps := 1000000) only [go_sem, ↓reduceIte, Nat.reduceAdd, Nat.reduceSub, Nat.reduceMul, Nat.reduceLT, Nat.reduceLeDiff, Nat.reduceEqDiff, Nat.reduceBEq, Nat.reduceBNe, Int.reduceToNat, Int.reduceLT, Int.reduceLE, Int.reduceNeg, reduceCtorEq, Int.reduceEq, Int.reduceNe]), renL_F (by simp -dsimp -implicitDefEqProofs (maxSteps := 1000000) only [go_sem, ↓reduceIte, Nat.reduceAdd, Nat.reduceSub, Nat.reduceMul, Nat.reduceLT, Nat.reduceLeDiff, Nat.reduceEqDiff, Nat.reduceBEq, Nat.reduceBNe, Int.reduceToNat, Int.reduceLT, Int.reduceLE, Int.reduceNeg, reduceCtorEq, Int.reduceEq, Int.reduceNe]), renL_F (by simp -dsimp -implicitDefEqProofs (maxSteps := 1000000) only [go_sem, ↓reduceIte, Nat.reduceAdd, Nat.reduceSub, Nat.reduceMul, Nat.reduceLT, Nat.reduceLeDiff, Nat.reduceEqDiff, Nat.reduceBEq, Nat.reduceBNe, Int.reduceToNat, Int.reduceLT, Int.reduceLE, Int.reduceNeg, reduceCtorEq, Int.reduceEq, Int.reduceNe])⟩
          obtain ⟨k, hk, hall⟩ := k
          simp -dsimp -implicitDefEqProofs (maxSteps := 1000000) only [go_sem, ↓reduceIte, Nat.reduceAdd, Nat.reduceSub, Nat.reduceMul, Nat.reduceLT, Nat.reduceLeDiff, Nat.reduceEqDiff, Nat.reduceBEq, Nat.reduceBNe, Int.reduceToNat, Int.reduceLT, Int.reduceLE, Int.reduceNeg, reduceCtorEq, Int.reduceEq, Int.reduceNe]
          refine ⟨fun hk' => ?_, fun hout => ?_⟩
          · have hkl : k < p.length := by omega
            have ek := wrA1 (a := k) (by omega)
            have g1 := getD_some hkl
            have g2 := getD_some (p := q) (k := k) (by omega)
            have c2 : ((k : Nat) : Int) < (q.length : Int) := by omega
            have hq : k / w ≤ k := Nat.div_le_self _ _
            have e4 : wr ((k / w : Nat) : Int) = ((k / w : Nat) : Int) := wrN (by omega)
            refine AtCode.draw 11 [([], []), ([0], []), ([], []), ([0, 1, 2], []), ([0, 1, 2, 3], []), ([], []), ([5], []), ([], []), ([5, 6, 7], []), ([5, 6, 7, 8], []), ([0, 1, 2, 3, 4, 5, 6, 7, 8, 9], [])] (by kernel_rfl) ?_
            by_cases hx : p.getD k 0 = q.getD k 0
            · simp -dsimp -implicitDefEqProofs (maxSteps := 1000000) only [go_sem, ↓reduceIte, Nat.reduceAdd, Nat.reduceSub, Nat.reduceMul, Nat.reduceLT, Nat.reduceLeDiff, Nat.reduceEqDiff, Nat.reduceBEq, Nat.reduceBNe, Int.reduceToNat, Int.reduceLT, Int.reduceLE, Int.reduceNeg, reduceCtorEq, Int.reduceEq, Int.reduceNe, pxC_get, pxC_len, g1, g2, c2, hk', Int.natCast_nonneg, Int.toNat_natCast, Nat.zero_add, hx]
              refine ⟨⟨k + 1, by omega, fun j hj => ?_⟩, by show p.length - (k + 1) < p.length - k; omega, Le.tl (Ls := []) (y := none) [] (by simp -dsimp -implicitDefEqProofs (maxSteps := 1000000) only [go_sem, ↓reduceIte, Nat.reduceAdd, Nat.reduceSub, Nat.reduceMul, Nat.reduceLT, Nat.reduceLeDiff, Nat.reduceEqDiff, Nat.reduceBEq, Nat.reduceBNe, Int.reduceToNat, Int.reduceLT, Int.reduceLE, Int.reduceNeg, reduceCtorEq, Int.reduceEq, Int.reduceNe, ek]) ?_ (by simp) (by simp [sg]) trivial⟩
              · rcases Nat.lt_or_ge j k with h | h
                · exact hall j h
                · rw [show j = k by omega]; exact hx
              · simp -dsimp -implicitDefEqProofs (maxSteps := 1000000) only [go_sem, ↓reduceIte, Nat.reduceAdd, Nat.reduceSub, Nat.reduceMul, Nat.reduceLT, Nat.reduceLeDiff, Nat.reduceEqDiff, Nat.reduceBEq, Nat.reduceBNe, Int.reduceToNat, Int.reduceLT, Int.reduceLE, Int.reduceNeg, reduceCtorEq, Int.reduceEq, Int.reduceNe]
                exact ⟨renL_F (by simp -dsimp -implicitDefEqProofs (maxSteps := 1000000) only [go_sem, ↓reduceIte, Nat.reduceAdd, Nat.reduceSub, Nat.reduceMul, Nat.reduceLT, Nat.reduceLeDiff, Nat.reduceEqDiff, Nat.reduceBEq, Nat.reduceBNe, Int.reduceToNat, Int.reduceLT, Int.reduceLE, Int.reduceNeg, reduceCtorEq, Int.reduceEq, Int.reduceNe]), renL_F (by simp -dsimp -implicitDefEqProofs (maxSteps := 1000000) only [go_sem, ↓reduceIte, Nat.reduceAdd, Nat.reduceSub, Nat.reduceMul, Nat.reduceLT, Nat.reduceLeDiff, Nat.reduceEqDiff, Nat.reduceBEq, Nat.reduceBNe, Int.reduceToNat, Int.reduceLT, Int.reduceLE, Int.reduceNeg, reduceCtorEq, Int.reduceEq, Int.reduceNe]), renL_F (by simp -dsimp -implicitDefEqProofs (maxSteps := 1000000) only [go_sem, ↓reduceIte, Nat.reduceAdd, Nat.reduceSub, Nat.reduceMul, Nat.reduceLT, Nat.reduceLeDiff, Nat.reduceEqDiff, Nat.reduceBEq, Nat.reduceBNe, Int.reduceToNat, Int.reduceLT, Int.reduceLE, Int.reduceNeg, reduceCtorEq, Int.reduceEq, Int.reduceNe])⟩
            · have hf : diffF w p q = ((((k % w : Nat) : Int), ((k / w : Nat) : Int)), 0) := by
                unfold diffF
                rw [find_some hkl (by simpa using hx) (fun j hj => by simpa using hall j hj)]
              rw [hf]
              simp -dsimp -implicitDefEqProofs (maxSteps := 1000000) only [go_sem, ↓reduceIte, Nat.reduceAdd, Nat.reduceSub, Nat.reduceMul, Nat.reduceLT, Nat.reduceLeDiff, Nat.reduceEqDiff, Nat.reduceBEq, Nat.reduceBNe, Int.reduceToNat, Int.reduceLT, Int.reduceLE, Int.reduceNeg, reduceCtorEq, Int.reduceEq, Int.reduceNe, pxC_get, pxC_len, g1, g2, c2, hk', Int.natCast_nonneg, Int.toNat_natCast, Nat.zero_add, hx]
              refine AtCode.draw 9 [([], []), ([], []), ([1], []), ([0, 1, 2], []), ([], []), ([], []), ([5], []), ([4, 5, 6], []), ([0, 1, 2, 3, 4, 5, 6, 7], []), ([0, 1, 2, 3, 4, 5, 6, 7, 8], []), ([0, 1, 2, 3, 4, 5, 6, 7, 8, 9], [])] (by kernel_rfl) ?_
              simp -dsimp -implicitDefEqProofs (maxSteps := 1000000) only [go_sem, ↓reduceIte, Nat.reduceAdd, Nat.reduceSub, Nat.reduceMul, Nat.reduceLT, Nat.reduceLeDiff, Nat.reduceEqDiff, Nat.reduceBEq, Nat.reduceBNe, Int.reduceToNat, Int.reduceLT, Int.reduceLE, Int.reduceNeg, reduceCtorEq, Int.reduceEq, Int.reduceNe, tmodN, tdivN, ew, e4]
          · have hkp : k = p.length := by omega
            have hf : diffF w p q = ((0, 0), 4) := by
              unfold diffF
              rw [find_none (fun j hj => by simpa using hall j (by omega))]
            rw [hf]
        · rw [if_neg (fun h => hh h.2)]
          refine PFun.intro 400 mixed Tryd.func31 (by kernel_rfl) rfl (by first | exact .v _ | (simp [Cl_v, Cl_t, Cl_g, Cl_fn, Cl_rp, Cl_ro]; done) | (simp [Cl_v, Cl_t, Cl_g, Cl_fn, Cl_rp, Cl_ro, or_imp, forall_and]; done) | (split <;> simp [Cl_v, Cl_t, Cl_g, Cl_fn, Cl_rp, Cl_ro])) (Nat.le_of_ble_eq_true rfl) ?_; rw [Tryd.ntmps31, Tryd.results31]
          simp -dsimp -implicitDefEqProofs (maxSteps := 1000000) only [go_sem, ↓reduceIte, Nat.reduceAdd, Nat.reduceSub, Nat.reduceMul, Nat.reduceLT, Nat.reduceLeDiff, Nat.reduceEqDiff, Nat.reduceBEq, Nat.reduceBNe, Int.reduceToNat, Int.reduceLT, Int.reduceLE, Int.reduceNeg, reduceCtorEq, Int.reduceEq, Int.reduceNe]
          refine AtFn.pure0 hva ?_
          simp -dsimp -implicitDefEqProofs (maxSteps := 1000000) only [go_sem, ↓reduceIte, Nat.reduceAdd, Nat.reduceSub, Nat.reduceMul, Nat.reduceLT, Nat.reduceLeDiff, Nat.reduceEqDiff, Nat.reduceBEq, Nat.reduceBNe, Int.reduceToNat, Int.reduceLT, Int.reduceLE, Int.reduceNeg, reduceCtorEq, Int.reduceEq, Int.reduceNe, ha]
          refine AtFn.pure0 hvb ?_
          simp -dsimp -implicitDefEqProofs (maxSteps := 1000000) only [go_sem, ↓reduceIte, Nat.reduceAdd, Nat.reduceSub, Nat.reduceMul, Nat.reduceLT, Nat.reduceLeDiff, Nat.reduceEqDiff, Nat.reduceBEq, Nat.reduceBNe, Int.reduceToNat, Int.reduceLT, Int.reduceLE, Int.reduceNeg, reduceCtorEq, Int.reduceEq, Int.reduceNe, hb, hw, hh]
      · rw [if_neg (fun h => hw h.1)]
        refine PFun.intro 400 mixed Tryd.func31 (by kernel_rfl) rfl (by first | exact .v _ | (simp [Cl_v, Cl_t, Cl_g, Cl_fn, Cl_rp, Cl_ro]; done) | (simp [Cl_v, Cl_t, Cl_g, Cl_fn, Cl_rp, Cl_ro, or_imp, forall_and]; done) | (split <;> simp [Cl_v, Cl_t, Cl_g, Cl_fn, Cl_rp, Cl_ro])) (Nat.le_of_ble_eq_true rfl) ?_; rw [Tryd.ntmps31, Tryd.results31]
        simp -dsimp -implicitDefEqProofs (maxSteps := 1000000) only [go_sem, ↓reduceIte, Nat.reduceAdd, Nat.reduceSub, Nat.reduceMul, Nat.reduceLT, Nat.reduceLeDiff, Nat.reduceEqDiff, Nat.reduceBEq, Nat.reduceBNe, Int.reduceToNat, Int.reduceLT, Int.reduceLE, Int.reduceNeg, reduceCtorEq, Int.reduceEq, Int.reduceNe]
        refine AtFn.pure0 hva ?_
        simp -dsimp -implicitDefEqProofs (maxSteps := 1000000) only [go_sem, ↓reduceIte, Nat.reduceAdd, Nat.reduceSub, Nat.reduceMul, Nat.reduceLT, Nat.reduceLeDiff, Nat.reduceEqDiff, Nat.reduceBEq, Nat.reduceBNe, Int.reduceToNat, Int.reduceLT, Int.reduceLE, Int.reduceNeg, reduceCtorEq, Int.reduceEq, Int.reduceNe, ha]
        refine AtFn.pure0 hvb ?_
        simp -dsimp -implicitDefEqProofs (maxSteps := 1000000) only [go_sem, ↓reduceIte, Nat.reduceAdd, Nat.reduceSub, Nat.reduceMul, Nat.reduceLT, Nat.reduceLeDiff, Nat.reduceEqDiff, Nat.reduceBEq, Nat.reduceBNe, Int.reduceToNat, Int.reduceLT, Int.reduceLE, Int.reduceNeg, reduceCtorEq, Int.reduceEq, Int.reduceNe, hb, hw]
    · have hb : vaB b = false := by simpa using hb
      rw [if_neg (by rw [ha, hb]; simp)]
      obtain ⟨w, h, p⟩ := a
      obtain ⟨w', h', q⟩ := b
      refine PFun.intro 400 mixed Tryd.func31 (by kernel_rfl) rfl (by first | exact .v _ | (simp [Cl_v, Cl_t, Cl_g, Cl_fn, Cl_rp, Cl_ro]; done) | (simp [Cl_v, Cl_t, Cl_g, Cl_fn, Cl_rp, Cl_ro, or_imp, forall_and]; done) | (split <;> simp [Cl_v, Cl_t, Cl_g, Cl_fn, Cl_rp, Cl_ro])) (Nat.le_of_ble_eq_true rfl) ?_; rw [Tryd.ntmps31, Tryd.results31]
      simp -dsimp -implicitDefEqProofs (maxSteps := 1000000) only [go_sem, ↓reduceIte, Nat.reduceAdd, Nat.reduceSub, Nat.reduceMul, Nat.reduceLT, Nat.reduceLeDiff, Nat.reduceEqDiff, Nat.reduceBEq, Nat.reduceBNe, Int.reduceToNat, Int.reduceLT, Int.reduceLE, Int.reduceNeg, reduceCtorEq, Int.reduceEq, Int.reduceNe]
      refine AtFn.pure0 hva ?_
      simp -dsimp -implicitDefEqProofs (maxSteps := 1000000) only [go_sem, ↓reduceIte, Nat.reduceAdd, Nat.reduceSub, Nat.reduceMul, Nat.reduceLT, Nat.reduceLeDiff, Nat.reduceEqDiff, Nat.reduceBEq, Nat.reduceBNe, Int.reduceToNat, Int.reduceLT, Int.reduceLE, Int.reduceNeg, reduceCtorEq, Int.reduceEq, Int.reduceNe, ha]
      refine AtFn.pure0 hvb ?_
      simp -dsimp -implicitDefEqProofs (maxSteps := 1000000) only [go_sem, ↓reduceIte, Nat.reduceAdd, Nat.reduceSub, Nat.reduceMul, Nat.reduceLT, Nat.reduceLeDiff, Nat.reduceEqDiff, Nat.reduceBEq, Nat.reduceBNe, Int.reduceToNat, Int.reduceLT, Int.reduceLE, Int.reduceNeg, reduceCtorEq, Int.reduceEq, Int.reduceNe, hb]
  · have ha : vaB a = false := by simpa using ha
    rw [if_neg (by rw [ha]; simp)]
    obtain ⟨w, h, p⟩ := a
    obtain ⟨w', h', q⟩ := b
    refine PFun.intro 400 mixed Tryd.func31 (by kernel_rfl) rfl (by first | exact .v _ | (simp [Cl_v, Cl_t, Cl_g, Cl_fn, Cl_rp, Cl_ro]; done) | (simp [Cl_v, Cl_t, Cl_g, Cl_fn, Cl_rp, Cl_ro, or_imp, forall_and]; done) | (split <;> simp [Cl_v, Cl_t, Cl_g, Cl_fn, Cl_rp, Cl_ro])) (Nat.le_of_ble_eq_true rfl) ?_; rw [Tryd.ntmps31, Tryd.results31]
    simp -dsimp -implicitDefEqProofs (maxSteps := 1000000) only [go_sem, ↓reduceIte, Nat.reduceAdd, Nat.reduceSub, Nat.reduceMul, Nat.reduceLT, Nat.reduceLeDiff, Nat.reduceEqDiff, Nat.reduceBEq, Nat.reduceBNe, Int.reduceToNat, Int.reduceLT, Int.reduceLE, Int.reduceNeg, reduceCtorEq, Int.reduceEq, Int.reduceNe]
    refine AtFn.pure0 hva ?_
    simp -dsimp -implicitDefEqProofs (maxSteps := 1000000) only [go_sem, ↓reduceIte, Nat.reduceAdd, Nat.reduceSub, Nat.reduceMul, Nat.reduceLT, Nat.reduceLeDiff, Nat.reduceEqDiff, Nat.reduceBEq, Nat.reduceBNe, Int.reduceToNat, Int.reduceLT, Int.reduceLE, Int.reduceNeg, reduceCtorEq, Int.reduceEq, Int.reduceNe, ha]
end

section
set_option maxRecDepth 20000
attribute [local go_sem] clPxT
abbrev rnC (r : Int × Int) : List AV := [I r.1, I r.2]
theorem clRn (l : List (Int × Int)) : ∀ c ∈ l.map rnC, ∀ s ∈ c, Cl s := fun c hc s hs => by
  obtain ⟨r, _, rfl⟩ := List.mem_map.1 hc
  simp at hs
  rcases hs with rfl | rfl <;> exact .v _
def runStep (out : List (Int × Int)) (x : Int) : List (Int × Int) :=
  match out.getLast? with
  | some r => if r.1 = x then out.dropLast ++ [(r.1, r.2 + 1)] else out ++ [(x, 1)]
  | none => [(x, 1)]
def runsL (l : List Int) : List (Int × Int) := l.foldl runStep []
def runP (r : Ra) (j : Int) : List (Int × Int) × Int :=
  if vaB r then (if 0 ≤ j ∧ j < r.h then (runsL ((r.p.drop (j.toNat * r.w.toNat)).take r.w.toNat), 0) else ([], 17)) else ([], 2)
abbrev RnA (x : List (Int × Int) × Int) : AV := .t [.ro 2 (x.1.map rnC), I x.2]
theorem clRnA (x : List (Int × Int) × Int) : Cl (RnA x) := .t2 (.ro (clRn _)) (.v _)
theorem runStep_nil (x : Int) : runStep [] x = [(x, 1)] := rfl
theorem runStep_eq (D : List (Int × Int)) (v c x : Int) (h : v = x) : runStep (D ++ [(v, c)]) x = D ++ [(v, c + 1)] := by
  unfold runStep
  simp [h]
theorem runStep_ne (D : List (Int × Int)) (v c x : Int) (h : ¬ v = x) : runStep (D ++ [(v, c)]) x = D ++ [(v, c)] ++ [(x, 1)] := by
  unfold runStep
  simp [h]
theorem runs_snoc {l : List Int} {k : Nat} {x : Int} (h : l[k]? = some x) : runsL (l.take (k + 1)) = runStep (runsL (l.take k)) x := by
  unfold runsL
  rw [List.take_add_one, h, List.foldl_append]; rfl
theorem runs_bd : ∀ (l : List Int) (out : List (Int × Int)) (n : Nat), (∀ r ∈ out, 1 ≤ r.2 ∧ r.2 ≤ n) → ∀ r ∈ l.foldl runStep out, 1 ≤ r.2 ∧ r.2 ≤ ((n + l.length : Nat) : Int)
  | [], out, n, h, r, hr => by simpa using h r hr
  | x :: l, out, n, h, r, hr => by
    rw [List.foldl_cons] at hr
    have := runs_bd l (runStep out x) (n + 1) ?_ r hr
    · rw [List.length_cons]; omega
    · intro q hq
      rcases List.eq_nil_or_concat out with rfl | ⟨D, ⟨v, c⟩, rfl⟩
      · rw [runStep_nil] at hq; rw [List.mem_singleton.1 hq]; simp only; omega
      · rw [List.concat_eq_append] at *
        have hl := h (v, c) (by simp)
        by_cases hv : v = x
        · rw [runStep_eq D v c x hv] at hq
          rcases List.mem_append.1 hq with hq | hq
          · have := h q (by simp [hq]); omega
          · rw [List.mem_singleton.1 hq]; simp only at hl ⊢; omega
        · rw [runStep_ne D v c x hv] at hq
          rcases List.mem_append.1 hq with hq | hq
          · have := h q hq; omega
          · rw [List.mem_singleton.1 hq]; simp only; omega
theorem runs_len : ∀ (l : List Int) (out : List (Int × Int)), (l.foldl runStep out).length ≤ out.length + l.length
  | [], out => by simp
  | x :: l, out => by
    rw [List.foldl_cons]
    have := runs_len l (runStep out x)
    have h2 : (runStep out x).length ≤ out.length + 1 := by
      unfold runStep
      split
      · rename_i r hr
        have hne : out ≠ [] := by intro e; subst e; simp at hr
        have : 0 < out.length := List.length_pos_iff.2 hne
        split
        · simp; try omega
        · simp
      · simp
    rw [List.length_cons]; omega
theorem runs24 (r : Ra) (j : Int) (hok : okP r.p) : PFun Tryd.prog 24 [RaA r, I j] (RnA (runP r j)) := by
  have hv := valid62 r
  unfold runP
  by_cases hc : vaB r = true
  · rw [if_pos hc]
    obtain ⟨w, h, p, rfl, w1, w2, h1, h2, hlen⟩ := vaR_of hc
    have hN := prodN w2 h2
    by_cases hj : 0 ≤ j ∧ j < ((h : Nat) : Int)
    · rw [if_pos hj]
      obtain ⟨j, rfl⟩ := Int.eq_ofNat_of_zero_le hj.1
      have hjl : j < h := by omega
      show PFun Tryd.prog 24 [RaA ⟨w, h, p⟩, I (j : Int)] (RnA (runsL ((p.drop (j * w)).take w), 0))
      obtain ⟨row, hrow⟩ : ∃ row, row = (p.drop (j * w)).take w := ⟨_, rfl⟩
      rw [← hrow]
      have hjw : j * w + w ≤ w * h := by
        have : (j + 1) * w ≤ h * w := Nat.mul_le_mul_right _ hjl
        rw [Nat.succ_mul, Nat.mul_comm h w] at this; exact this
      have hrl : row.length = w := by rw [hrow, List.length_take, List.length_drop, hlen]; omega
      have hrp : List.drop (j * w) (List.take ((j + 1) * w) (pxC p)) = pxC row := by
        rw [hrow]; unfold pxC
        rw [← List.map_take, ← List.map_drop, List.drop_take, Nat.succ_mul, show j * w + w - j * w = w by omega]
      have r0 : runsL [] = [] := rfl
      have f1 : ¬ (j : Int) < 0 := by omega
      have f2 : ¬ (h : Int) ≤ j := by omega
      have b1 := wrM (a := j) (b := w) (by omega)
      have b2 := wrA1 (a := j) (by omega)
      have b3 := wrM (a := j + 1) (b := w) (by rw [Nat.succ_mul]; omega)
      have c1 : j * w ≤ (j + 1) * w := by rw [Nat.succ_mul]; omega
      have c2 : (j + 1) * w ≤ p.length := by rw [Nat.succ_mul, hlen]; exact hjw
      have hokr : okP row := fun x hx => by
        rw [hrow] at hx
        exact hok x (List.mem_of_mem_drop (List.mem_of_mem_take hx))
      refine PFun.intro 400 mixed Tryd.func24 (by kernel_rfl) rfl (clRnA _) (Nat.le_of_ble_eq_true rfl) ?_; rw [Tryd.ntmps24, Tryd.results24]
      simp -dsimp -implicitDefEqProofs (maxSteps := 1000000) only [go_sem, ↓reduceIte, Nat.reduceAdd, Nat.reduceSub, Nat.reduceMul, Nat.reduceLT, Nat.reduceLeDiff, Nat.reduceEqDiff, Nat.reduceBEq, Nat.reduceBNe, Int.reduceToNat, Int.reduceLT, Int.reduceLE, Int.reduceNeg, reduceCtorEq, Int.reduceEq, Int.reduceNe]
      refine AtFn.pure0 hv ?_
      simp -dsimp -implicitDefEqProofs (maxSteps := 1000000) only [go_sem, ↓reduceIte, Nat.reduceAdd, Nat.reduceSub, Nat.reduceMul, Nat.reduceLT, Nat.reduceLeDiff, Nat.reduceEqDiff, Nat.reduceBEq, Nat.reduceBNe, Int.reduceToNat, Int.reduceLT, Int.reduceLE, Int.reduceNeg, reduceCtorEq, Int.reduceEq, Int.reduceNe, hc, f1, f2, b1, b2, b3, c1, c2, pxC_len, hrp, hrl, Int.natCast_nonneg, Int.toNat_natCast]
      refine ⟨{k : Nat // k ≤ w}, fun k => ⟨72, tl [(2, .ptr 0 0 0), (6, .sl 1 0 (runsL (row.take k.1)).length), (34, .ro 1 (pxC row)), (35, I w), (36, I k.1)], [(0, ⟨3, [[I w, I h, .ro 1 (pxC p)]]⟩), (1, ⟨2, (runsL (row.take k.1)).map rnC⟩)], 2, .nil⟩, fun k => w - k.1,
        ⟨⟨0, by omega⟩, Le.tl0 (Ls := []) (y := none) [] ?_ ?_ (by simp) (by simp [sg]) trivial⟩, fun k => ?_⟩
      · simp -dsimp -implicitDefEqProofs (maxSteps := 1000000) only [go_sem, ↓reduceIte, Nat.reduceAdd, Nat.reduceSub, Nat.reduceMul, Nat.reduceLT, Nat.reduceLeDiff, Nat.reduceEqDiff, Nat.reduceBEq, Nat.reduceBNe, Int.reduceToNat, Int.reduceLT, Int.reduceLE, Int.reduceNeg, reduceCtorEq, Int.reduceEq, Int.reduceNe, List.take_zero, r0, List.length_nil]
      · simp -dsimp -implicitDefEqProofs (maxSteps := 1000000) only [go_sem, ↓reduceIte, Nat.reduceAdd, Nat.reduceSub, Nat.reduceMul, Nat.reduceLT, Nat.reduceLeDiff, Nat.reduceEqDiff, Nat.reduceBEq, Nat.reduceBNe, Int.reduceToNat, Int.reduceLT, Int.reduceLE, Int.reduceNeg, reduceCtorEq, Int.reduceEq, Int.reduceNe, List.take_zero, r0, List.map_nil]
        exact renL_F (by simp -dsimp -implicitDefEqProofs (maxSteps := 1000000) only [go_sem, ↓reduceIte, Nat.reduceAdd, Nat.reduceSub, Nat.reduceMul, Nat.reduceLT, Nat.reduceLeDiff, Nat.reduceEqDiff, Nat.reduceBEq, Nat.reduceBNe, Int.reduceToNat, Int.reduceLT, Int.reduceLE, Int.reduceNeg, reduceCtorEq, Int.reduceEq, Int.reduceNe])
      obtain ⟨k, hk⟩ := k
      simp -dsimp -implicitDefEqProofs (maxSteps := 1000000) only [go_sem, ↓reduceIte, Nat.reduceAdd, Nat.reduceSub, Nat.reduceMul, Nat.reduceLT, Nat.reduceLeDiff, Nat.reduceEqDiff, Nat.reduceBEq, Nat.reduceBNe, Int.reduceToNat, Int.reduceLT, Int.reduceLE, Int.reduceNeg, reduceCtorEq, Int.reduceEq, Int.reduceNe, pxC_len, hrl]
      refine ⟨fun hk' => ?_, fun hout => ?_⟩
      · have hkl : k < w := by omega
        have ek := wrA1 (a := k) (by omega)
        obtain ⟨x, hx⟩ : ∃ x, row[k]? = some x := ⟨_, List.getElem?_eq_getElem (by omega)⟩
        have hxb := hokr x (List.mem_of_getElem? hx)
        have ex : wr x = x := wr_in (by omega) (by omega)
        have hsn := runs_snoc hx
        have hbd := runs_bd (row.take k) [] 0 (by simp)
        have hln := runs_len (row.take k) []
        obtain ⟨out, hout⟩ : ∃ out, out = runsL (row.take k) := ⟨_, rfl⟩
        rw [show (row.take k).foldl runStep [] = out from hout.symm] at hbd hln
        rw [← hout] at hsn ⊢
        rw [List.length_take] at hbd hln
        simp only [List.length_nil] at hln
        rcases List.eq_nil_or_concat out with hnil | ⟨D, ⟨v, c⟩, hcat⟩
        · subst hnil
          simp -dsimp -implicitDefEqProofs (maxSteps := 1000000) only [go_sem, ↓reduceIte, Nat.reduceAdd, Nat.reduceSub, Nat.reduceMul, Nat.reduceLT, Nat.reduceLeDiff, Nat.reduceEqDiff, Nat.reduceBEq, Nat.reduceBNe, Int.reduceToNat, Int.reduceLT, Int.reduceLE, Int.reduceNeg, reduceCtorEq, Int.reduceEq, Int.reduceNe, hx, pxC_get, Int.natCast_nonneg, Int.toNat_natCast, Nat.zero_add, hk', List.length_nil, List.map_nil, ex]
          refine ⟨⟨k + 1, by omega⟩, by show w - (k + 1) < w - k; omega, Le.tl (Ls := []) (y := none) [(1, 3)] ?_ ?_ (by simp) (by simp [sg]) trivial⟩
          · simp -dsimp -implicitDefEqProofs (maxSteps := 1000000) only [go_sem, ↓reduceIte, Nat.reduceAdd, Nat.reduceSub, Nat.reduceMul, Nat.reduceLT, Nat.reduceLeDiff, Nat.reduceEqDiff, Nat.reduceBEq, Nat.reduceBNe, Int.reduceToNat, Int.reduceLT, Int.reduceLE, Int.reduceNeg, reduceCtorEq, Int.reduceEq, Int.reduceNe, ek, hsn, runStep_nil]
          · simp -dsimp -implicitDefEqProofs (maxSteps := 1000000) only [go_sem, ↓reduceIte, Nat.reduceAdd, Nat.reduceSub, Nat.reduceMul, Nat.reduceLT, Nat.reduceLeDiff, Nat.reduceEqDiff, Nat.reduceBEq, Nat.reduceBNe, Int.reduceToNat, Int.reduceLT, Int.reduceLE, Int.reduceNeg, reduceCtorEq, Int.reduceEq, Int.reduceNe, hsn, runStep_nil]
            exact ⟨renL_F (by simp -dsimp -implicitDefEqProofs (maxSteps := 1000000) only [go_sem, ↓reduceIte, Nat.reduceAdd, Nat.reduceSub, Nat.reduceMul, Nat.reduceLT, Nat.reduceLeDiff, Nat.reduceEqDiff, Nat.reduceBEq, Nat.reduceBNe, Int.reduceToNat, Int.reduceLT, Int.reduceLE, Int.reduceNeg, reduceCtorEq, Int.reduceEq, Int.reduceNe]), renL_F (by simp -dsimp -implicitDefEqProofs (maxSteps := 1000000) only [go_sem, ↓reduceIte, Nat.reduceAdd, Nat.reduceSub, Nat.reduceMul, Nat.reduceLT, Nat.reduceLeDiff, Nat.reduceEqDiff, Nat.reduceBEq, Nat.reduceBNe, Int.reduceToNat, Int.reduceLT, Int.reduceLE, Int.reduceNeg, reduceCtorEq, Int.reduceEq, Int.reduceNe])⟩
        · rw [List.concat_eq_append] at hcat
          subst hcat
          have hc2 := hbd (v, c) (by simp)
          simp only at hc2
          have hDl : (D ++ [(v, c)]).length = D.length + 1 := by simp
          rw [hDl] at hln
          have d1 := wrS1 (a := D.length + 1) (by omega) (by omega)
          rw [Nat.add_sub_cancel] at d1
          have d2 : (0 : Int) < ((D.length + 1 : Nat) : Int) := by omega
          have d3 : ((D.length : Nat) : Int) < ((D.length + 1 : Nat) : Int) := by omega
          have hML : (List.map rnC (D ++ [(v, c)])).length = D.length + 1 := by rw [List.length_map, hDl]
          have hTA : takeA 0 (D.length + 1) (List.map rnC (D ++ [(v, c)])) = List.map rnC (D ++ [(v, c)]) := by rw [takeA, if_pos ⟨rfl, hML.symm⟩]
          have g1 : (List.map rnC (D ++ [(v, c)]))[D.length]? = some [I v, I c] := by
            rw [List.getElem?_map, List.getElem?_append_right (Nat.le_refl _), Nat.sub_self]; rfl
          by_cases hv : v = x
          · subst hv
            have ec : wr (c + 1) = c + 1 := wr_in (by omega) (by omega)
            have hset : (List.map rnC (D ++ [(v, c)])).set D.length [I v, I (c + 1)] = List.map rnC (D ++ [(v, c + 1)]) := by
              rw [List.map_append, List.set_append_right _ _ (by simp), List.length_map, Nat.sub_self]; simp
            rw [runStep_eq D v c v rfl] at hsn
            simp -dsimp -implicitDefEqProofs (maxSteps := 1000000) only [go_sem, ↓reduceIte, Nat.reduceAdd, Nat.reduceSub, Nat.reduceMul, Nat.reduceLT, Nat.reduceLeDiff, Nat.reduceEqDiff, Nat.reduceBEq, Nat.reduceBNe, Int.reduceToNat, Int.reduceLT, Int.reduceLE, Int.reduceNeg, reduceCtorEq, Int.reduceEq, Int.reduceNe, hx, pxC_get, Int.natCast_nonneg, Int.toNat_natCast, Nat.zero_add, hk', hDl, ex, d1, d2, d3, g1]
            refine AtCode.draw 9 [([], []), ([], []), ([1], []), ([0, 1, 2], []), ([0, 1, 2, 3], []), ([0, 1, 2, 3, 4], []), ([0, 1, 2, 3, 4, 5], []), ([0, 1, 2], []), ([0, 1, 2, 3, 4, 5, 6, 7], []), ([0, 1, 2, 3, 4, 5, 6, 7, 8], [])] (by kernel_rfl) ?_
            simp -dsimp -implicitDefEqProofs (maxSteps := 1000000) only [go_sem, ↓reduceIte, Nat.reduceAdd, Nat.reduceSub, Nat.reduceMul, Nat.reduceLT, Nat.reduceLeDiff, Nat.reduceEqDiff, Nat.reduceBEq, Nat.reduceBNe, Int.reduceToNat, Int.reduceLT, Int.reduceLE, Int.reduceNeg, reduceCtorEq, Int.reduceEq, Int.reduceNe, hx, pxC_get, Int.natCast_nonneg, Int.toNat_natCast, Nat.zero_add, hk', hDl, ex, d1, d2, d3, g1, ec]
            refine ⟨⟨k + 1, by omega⟩, by show w - (k + 1) < w - k; omega, Le.tl (Ls := []) (y := none) [] ?_ ?_ (by simp) (by simp [sg]) trivial⟩
            · simp -dsimp -implicitDefEqProofs (maxSteps := 1000000) only [go_sem, ↓reduceIte, Nat.reduceAdd, Nat.reduceSub, Nat.reduceMul, Nat.reduceLT, Nat.reduceLeDiff, Nat.reduceEqDiff, Nat.reduceBEq, Nat.reduceBNe, Int.reduceToNat, Int.reduceLT, Int.reduceLE, Int.reduceNeg, reduceCtorEq, Int.reduceEq, Int.reduceNe, ek, hsn, List.length_append, List.length_singleton, List.length_cons, List.length_nil]
            · simp -dsimp -implicitDefEqProofs (maxSteps := 1000000) only [go_sem, ↓reduceIte, Nat.reduceAdd, Nat.reduceSub, Nat.reduceMul, Nat.reduceLT, Nat.reduceLeDiff, Nat.reduceEqDiff, Nat.reduceBEq, Nat.reduceBNe, Int.reduceToNat, Int.reduceLT, Int.reduceLE, Int.reduceNeg, reduceCtorEq, Int.reduceEq, Int.reduceNe, hsn]
              exact ⟨renL_F (by simp -dsimp -implicitDefEqProofs (maxSteps := 1000000) only [go_sem, ↓reduceIte, Nat.reduceAdd, Nat.reduceSub, Nat.reduceMul, Nat.reduceLT, Nat.reduceLeDiff, Nat.reduceEqDiff, Nat.reduceBEq, Nat.reduceBNe, Int.reduceToNat, Int.reduceLT, Int.reduceLE, Int.reduceNeg, reduceCtorEq, Int.reduceEq, Int.reduceNe]), renL_cl2 hset (clRn _)⟩
          · rw [runStep_ne D v c x hv] at hsn
            simp -dsimp -implicitDefEqProofs (maxSteps := 1000000) only [go_sem, ↓reduceIte, Nat.reduceAdd, Nat.reduceSub, Nat.reduceMul, Nat.reduceLT, Nat.reduceLeDiff, Nat.reduceEqDiff, Nat.reduceBEq, Nat.reduceBNe, Int.reduceToNat, Int.reduceLT, Int.reduceLE, Int.reduceNeg, reduceCtorEq, Int.reduceEq, Int.reduceNe, hx, pxC_get, Int.natCast_nonneg, Int.toNat_natCast, Nat.zero_add, hk', hDl, ex, d1, d2, d3, g1, hv, hML, hTA, ex]
            refine ⟨Nat.le_refl _, by omega, ⟨k + 1, by omega⟩, by show w - (k + 1) < w - k; omega, Le.tl (Ls := []) (y := none) [(1, 3)] ?_ ?_ (by simp) (by simp [sg]) trivial⟩
            · simp -dsimp -implicitDefEqProofs (maxSteps := 1000000) only [go_sem, ↓reduceIte, Nat.reduceAdd, Nat.reduceSub, Nat.reduceMul, Nat.reduceLT, Nat.reduceLeDiff, Nat.reduceEqDiff, Nat.reduceBEq, Nat.reduceBNe, Int.reduceToNat, Int.reduceLT, Int.reduceLE, Int.reduceNeg, reduceCtorEq, Int.reduceEq, Int.reduceNe, ek, hsn, List.length_append, List.length_singleton, List.length_cons, List.length_nil]
              exact hML
            · simp -dsimp -implicitDefEqProofs (maxSteps := 1000000) only [go_sem, ↓reduceIte, Nat.reduceAdd, Nat.reduceSub, Nat.reduceMul, Nat.reduceLT, Nat.reduceLeDiff, Nat.reduceEqDiff, Nat.reduceBEq, Nat.reduceBNe, Int.reduceToNat, Int.reduceLT, Int.reduceLE, Int.reduceNeg, reduceCtorEq, Int.reduceEq, Int.reduceNe, hsn]
              exact ⟨renL_F (by simp -dsimp -implicitDefEqProofs (maxSteps := 1000000) only [go_sem, ↓reduceIte, Nat.reduceAdd, Nat.reduceSub, Nat.reduceMul, Nat.reduceLT, Nat.reduceLeDiff, Nat.reduceEqDiff, Nat.reduceBEq, Nat.reduceBNe, Int.reduceToNat, Int.reduceLT, Int.reduceLE, Int.reduceNeg, reduceCtorEq, Int.reduceEq, Int.reduceNe]), renL_cl2 (by rw [List.map_append (l₁ := D ++ [(v, c)])]; rfl) (clRn _)⟩
      · obtain rfl : k = w := by omega
        rw [if_pos (by rw [List.length_map]; omega), takeA, if_pos ⟨rfl, by rw [List.length_map]⟩, ← hrl, List.take_length]
    · rw [if_neg hj]
      refine PFun.res ?_ (Sub.t2 (Sub.nil 2) _)
      refine PFun.intro 400 mixed Tryd.func24 (by kernel_rfl) rfl (by first | exact .v _ | (simp [Cl_v, Cl_t, Cl_g, Cl_fn, Cl_rp, Cl_ro]; done) | (simp [Cl_v, Cl_t, Cl_g, Cl_fn, Cl_rp, Cl_ro, or_imp, forall_and]; done) | (split <;> simp [Cl_v, Cl_t, Cl_g, Cl_fn, Cl_rp, Cl_ro])) (Nat.le_of_ble_eq_true rfl) ?_; rw [Tryd.ntmps24, Tryd.results24]
      simp -dsimp -implicitDefEqProofs (maxSteps := 1000000) only [go_sem, ↓reduceIte, Nat.reduceAdd, Nat.reduceSub, Nat.reduceMul, Nat.reduceLT, Nat.reduceLeDiff, Nat.reduceEqDiff, Nat.reduceBEq, Nat.reduceBNe, Int.reduceToNat, Int.reduceLT, Int.reduceLE, Int.reduceNeg, reduceCtorEq, Int.reduceEq, Int.reduceNe]
      refine AtFn.pure0 hv ?_
      simp -dsimp -implicitDefEqProofs (maxSteps := 1000000) only [go_sem, ↓reduceIte, Nat.reduceAdd, Nat.reduceSub, Nat.reduceMul, Nat.reduceLT, Nat.reduceLeDiff, Nat.reduceEqDiff, Nat.reduceBEq, Nat.reduceBNe, Int.reduceToNat, Int.reduceLT, Int.reduceLE, Int.reduceNeg, reduceCtorEq, Int.reduceEq, Int.reduceNe, hc]
      by_cases f1 : j < 0
      · simp -dsimp -implicitDefEqProofs (maxSteps := 1000000) only [go_sem, ↓reduceIte, Nat.reduceAdd, Nat.reduceSub, Nat.reduceMul, Nat.reduceLT, Nat.reduceLeDiff, Nat.reduceEqDiff, Nat.reduceBEq, Nat.reduceBNe, Int.reduceToNat, Int.reduceLT, Int.reduceLE, Int.reduceNeg, reduceCtorEq, Int.reduceEq, Int.reduceNe, f1]
      · have f2 : (h : Int) ≤ j := by omega
        simp -dsimp -implicitDefEqProofs (maxSteps := 1000000) only [go_sem, ↓reduceIte, Nat.reduceAdd, Nat.reduceSub, Nat.reduceMul, Nat.reduceLT, Nat.reduceLeDiff, Nat.reduceEqDiff, Nat.reduceBEq, Nat.reduceBNe, Int.reduceToNat, Int.reduceLT, Int.reduceLE, Int.reduceNeg, reduceCtorEq, Int.reduceEq, Int.reduceNe, f1, f2]
  · have hc' : vaB r = false := by simpa using hc
    rw [if_neg hc]
    refine PFun.res ?_ (Sub.t2 (Sub.nil 2) _)
    obtain ⟨w, h, p⟩ := r
    refine PFun.intro 400 mixed Tryd.func24 (by kernel_rfl) rfl (by first | exact .v _ | (simp [Cl_v, Cl_t, Cl_g, Cl_fn, Cl_rp, Cl_ro]; done) | (simp [Cl_v, Cl_t, Cl_g, Cl_fn, Cl_rp, Cl_ro, or_imp, forall_and]; done) | (split <;> simp [Cl_v, Cl_t, Cl_g, Cl_fn, Cl_rp, Cl_ro])) (Nat.le_of_ble_eq_true rfl) ?_; rw [Tryd.ntmps24, Tryd.results24]
    simp -dsimp -implicitDefEqProofs (maxSteps := 1000000) only [go_sem, ↓reduceIte, Nat.reduceAdd, Nat.reduceSub, Nat.reduceMul, Nat.reduceLT, Nat.reduceLeDiff, Nat.reduceEqDiff, Nat.reduceBEq, Nat.reduceBNe, Int.reduceToNat, Int.reduceLT, Int.reduceLE, Int.reduceNeg, reduceCtorEq, Int.reduceEq, Int.reduceNe]
    refine AtFn.pure0 hv ?_
    simp -dsimp -implicitDefEqProofs (maxSteps := 1000000) only [go_sem, ↓reduceIte, Nat.reduceAdd, Nat.reduceSub, Nat.reduceMul, Nat.reduceLT, Nat.reduceLeDiff, Nat.reduceEqDiff, Nat.reduceBEq, Nat.reduceBNe, Int.reduceToNat, Int.reduceLT, Int.reduceLE, Int.reduceNeg, reduceCtorEq, Int.reduceEq, Int.reduceNe, hc']
end

end Go.Proofs.YtfmlhmfbhcfnpaaDoor
