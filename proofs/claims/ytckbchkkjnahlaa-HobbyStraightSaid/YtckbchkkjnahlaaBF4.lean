/- What functions of the given program answer, part 4. Conditions: each theorem speaks for itself. -/
import Derived.Test.YtckbchkkjnahlaaBTy
import Derived.Test.YtckbchkkjnahlaaBF1
import Derived.Test.YtckbchkkjnahlaaBF2
import Derived.Test.YtckbchkkjnahlaaBF3
set_option linter.unusedSimpArgs false
set_option linter.unusedVariables false
namespace Go.Proofs.Ytckbchkkjnahlaa
open Go Go.Eng Go.RowKit
attribute [local go_sem ↓] qE_move qE_assign qE_pick qE_load qE_fieldAddr qE_indexAddr qE_extract qE_binOp qE_neg qE_not qE_convert qE_build qE_len qE_max2 qE_min2 qE_nilCheck qE_slice vc_end vc_skip vc_ret vc_seq vc_cond vc_block vc_exit vc_region vc_draw vc_loop vc_blk vc_lp vc_o_nil vc_o vc_o_guard onK_eq oK_move oK_assign oK_pick oK_load oK_fieldAddr oK_indexAddr oK_extract oK_binOp oK_unOp oK_convert oK_nilCheck oK_slice oK_build oK_len oK_max oK_min onN_eq oK_box oK_alloc oK_buildSlice oK_makeSlice onH_eq oK_store onA_eq oK_append oK_call oK_copy oK_cap bV_add bV_sub bV_mul bV_quo bV_rem bV_shl bV_shr bV_eql bV_neq bV_lss bV_leq bV_gtr bV_geq vcQ_nil vcQ_cons vcQ_guard Q_move Q_assign Q_pick Q_load Q_fieldAddr Q_indexAddr Q_binOp Q_unOp Q_nilCheck Q_slice Q_build Q_len Q_alloc Q_buildSlice Q_call tailB_nil tailB_true onS_eq tailB_store onQ_eq onQB_eq loadE
attribute [local go_sem] force_eq optK_some optE_some optE_none bK_v tK_t fnK_fn fyK_fn nK_ptr pK_ptr pK_rp brK_true brK_false brK_not evA_tmp evA_const evA_func putA_some putA_none pushA_eq slots_zero slots_nil tl_nil tl_cons find_cons find_nil setN_cons setN_nil dropN_nil dropN_cons loE_none loE_some hiE_none hiE_some slE_sl slE_ro bE_i bE_bne bE_eql bE_neq intsA_nil intsA_cons gdK_b gdK_u popTo_blk popTo_c popTo_lp nilE_tmp nilE_int nilE_nil srcE_ro srcE_sl dstE_sl fin_eq res_nil res_tmp res_cell tup1 tup0 optA_some frz_v frz_ro frz_g frz_sl nm_v nm_ro nm_sl cells_v cells_g cells_ro cells_ptr cells_sl one_int one_bool one_slice oneA_v oneA_ro oneA_sl ofV_int ofV_bool ofV_slice len_ro len_sl len_nil asI_int fill_nil fill_cons chunks_nil chunks_cons DrawK_eq idR_eq addB_some roB_cons sg_nil sg_cons ren_v ren_nil ren_ptr ren_sl ren_ro iK_ro iK_sl takeA_00 takeA_s nil_eq maskE_eq i_InlQ i_tup2 i_RenF_nil i_RenF_cons wrap_wr brK_dec maskH_eq upd_get slots_succ Cl_v Cl_ro Cl_rp Cl_fn Cl_g Cl_t Bool.false_eq_true decide_true decide_false beq_self_eq_true true_and and_true ne_eq not_true not_false_eq_true List.elem_cons List.elem_nil List.contains_cons List.contains_nil List.getD_cons_zero List.getD_cons_succ Int.cast_ofNat_Int Bool.or_true Bool.true_or Bool.or_false Bool.false_or if_true if_false List.toList_toArray List.map_cons List.map_nil List.cons_append List.nil_append List.append_nil List.flatMap_cons List.flatMap_nil List.getElem?_cons_zero List.getElem?_cons_succ List.length_cons List.length_nil List.drop_succ_cons List.drop_zero List.take_succ_cons List.take_zero List.all_cons List.all_nil List.set_cons_zero List.set_cons_succ Option.bind_some Option.bind_none Option.map_some Option.map_none List.headD_cons List.tail_cons List.getElem?_toArray beq_true beq_false Bool.not_true Bool.not_false Bool.true_and Bool.and_true Bool.false_and Bool.and_false newCh List.replicate_succ List.replicate_zero Option.some.injEq exists_eq_left' sg_nil sg_cons List.mem_cons List.not_mem_nil forall_eq_or_imp forall_eq false_implies implies_true or_false false_or false_and and_false or_true true_or exists_false Option.isSome_some Option.isSome_none List.range_zero
attribute [local go_sem] T.sz3 T.ag3 T.pt3 T.ik3 T.us3 T.ze3 T.sz4 T.ag4 T.bo4 T.sz22 T.ag22 T.sl22 T.ik22 T.us22 T.sl23 T.sl25 T.ik25 T.us25 T.sz27 T.by27 T.ag27 T.ze27 T.fl27_0 T.fl27_1 T.bu27 T.sz29 T.ag29 T.us29 T.sz30 T.ag30 T.sz32 T.ag32 T.ze32 T.fl32_0 T.fl32_1 T.fl32_2 T.fl32_3 T.bu32 T.sz34 T.by34 T.ag34 T.ze34 T.fl34_0 T.fl34_1 T.fl34_2 T.bu34 T.sz37 T.ag37 T.ze37 T.fl37_0 T.fl37_1 T.bu37 T.sl41 T.ik41 T.us41 T.sz44 T.by44 T.ag44 T.ze44 T.bu44 T.sz61 T.ag61 T.sl61 T.ar61 T.pt61 T.ik61 T.us61 T.ze61 T.sz66 T.by66 T.ag66 T.ze66 T.fl66_0 T.fl66_1 T.fl66_2 T.fl66_3 T.fl66_4 T.fl66_5 T.fl66_6 T.fl66_7 T.fl66_8 T.bu66 T.sl71 T.sz80 T.ag80 T.ze80 T.sl81 T.ik94 T.us94 T.sl112 -- EXTRA=EngZP
section
set_option maxRecDepth 20000
attribute [local go_sem] eqk27' clKnsL clKns clArsL clUvR clPtsT clPtsR eqk44'
theorem third15 (z w b : Int × Int) (hz : inP z = true) (hw : inP w = true) (hb : inP b = true) (h : thr z w b) : PFun Try.prog 15 [Pt z, Pt w, Pt b] (Bo true) := by
  have bz := inP_bd hz
  have bw := inP_bd hw
  have bb := inP_bd hb
  obtain ⟨⟨h1, h2⟩, h3, h4⟩ := h
  have w1 : wr (b.1 - z.1) = b.1 - z.1 := wr_in (by omega) (by omega)
  have w2 : wr (3 * (b.1 - z.1)) = 3 * (b.1 - z.1) := wr_in (by omega) (by omega)
  have w3 : wr (w.1 - z.1) = w.1 - z.1 := wr_in (by omega) (by omega)
  have w4 : wr (3 * (b.1 - z.1) - (w.1 - z.1)) = 3 * (b.1 - z.1) - (w.1 - z.1) := wr_in (by omega) (by omega)
  have w5 : wr (b.2 - z.2) = b.2 - z.2 := wr_in (by omega) (by omega)
  have w6 : wr (3 * (b.2 - z.2)) = 3 * (b.2 - z.2) := wr_in (by omega) (by omega)
  have w7 : wr (w.2 - z.2) = w.2 - z.2 := wr_in (by omega) (by omega)
  have w8 : wr (3 * (b.2 - z.2) - (w.2 - z.2)) = 3 * (b.2 - z.2) - (w.2 - z.2) := wr_in (by omega) (by omega)
  refine PFun.intro 400 mixed Try.func15 (by kernel_rfl) rfl (by first | exact .v _ | (simp [Cl_v, Cl_t, Cl_g, Cl_fn, Cl_rp, Cl_ro]; done) | (simp [Cl_v, Cl_t, Cl_g, Cl_fn, Cl_rp, Cl_ro, or_imp, forall_and]; done) | (split <;> simp [Cl_v, Cl_t, Cl_g, Cl_fn, Cl_rp, Cl_ro])) (Nat.le_of_ble_eq_true rfl) ?_; rw [Try.ntmps15, Try.results15]
  simp -dsimp -implicitDefEqProofs (maxSteps := 1000000) only [go_sem, ↓reduceIte, Nat.reduceAdd, Nat.reduceSub, Nat.reduceMul, Nat.reduceLT, Nat.reduceLeDiff, Nat.reduceEqDiff, Nat.reduceBEq, Nat.reduceBNe, Int.reduceToNat, Int.reduceLT, Int.reduceLE, Int.reduceNeg, reduceCtorEq, Int.reduceEq, Int.reduceNe]
  refine AtCode.draw 26 [([], []), ([0], []), ([], []), ([2], []), ([0, 1, 2, 3], []), ([0, 1, 2, 3, 4], []), ([], []), ([6], []), ([], []), ([8], []), ([6, 7, 8, 9], []), ([0, 1, 2, 3, 4, 5, 6, 7, 8, 9, 10], []), ([], []), ([12], []), ([], []), ([14], []), ([12, 13, 14, 15], []), ([12, 13, 14, 15, 16], []), ([], []), ([18], []), ([], []), ([20], []), ([18, 19, 20, 21], []), ([12, 13, 14, 15, 16, 17, 18, 19, 20, 21, 22], []), ([0, 1, 2, 3, 4, 5, 6, 7, 8, 9, 10, 11], []), ([0, 1, 2, 3, 4, 5, 6, 7, 8, 9, 10, 11, 12, 13, 14, 15, 16, 17, 18, 19, 20, 21, 22, 23, 24], [])] (by kernel_rfl) ?_
  simp -dsimp -implicitDefEqProofs (maxSteps := 1000000) only [go_sem, ↓reduceIte, Nat.reduceAdd, Nat.reduceSub, Nat.reduceMul, Nat.reduceLT, Nat.reduceLeDiff, Nat.reduceEqDiff, Nat.reduceBEq, Nat.reduceBNe, Int.reduceToNat, Int.reduceLT, Int.reduceLE, Int.reduceNeg, reduceCtorEq, Int.reduceEq, Int.reduceNe, w1, w2, w3, w4, w5, w6, w7, w8, h1, h2, h3, h4]
/-- What the calls answer for knots of curls. -/
structure Ans (at' : List (Int × Int)) (cs : List Int) (c : Bool) (n : Nat) (pts : List (Int × Int)) (uv : AV) : Prop where
  ch : PFun Try.prog 13 [Kns (knL at' cs), Bo c] (PaR pts c)
  an : PFun Try.prog 14 [Kns (knL at' cs), Bo c] (.t [uv, I 0])
  uv : uv = .ro 2 (List.replicate n [I 0, I 0]) ∨ (n = 0 ∧ uv = nilS)
  len : pts.length = if c then 3 * n else 3 * n + 1
  pt : ∀ i, i < n → ∃ b d, pts[3 * i]? = some (gP at' i) ∧ pts[3 * i + 1]? = some b ∧ pts[3 * i + 2]? = some d ∧ inP b = true ∧ inP d = true ∧ thr (gP at' i) (gP at' ((i + 1) % at'.length)) b ∧ thr (gP at' ((i + 1) % at'.length)) (gP at' i) d
theorem ans (at' : List (Int × Int)) (cs : List Int) (c : Bool) (h1 : 1 ≤ at'.length) (h2 : at'.length ≤ 30) (hp : ∀ j, j < at'.length → inP (gP at' j) = true) (hc : ∀ x ∈ cs, 0 ≤ x ∧ x ≤ 65535) :
    ∃ pts uv, Ans at' cs c (segs (knL at' cs) c) pts uv := by
  have hl := knL_len at' cs
  have hv := knL_valid c h1 h2 hp hc
  have hG := settled_good at' cs c h1
  have hsl := settled_len (knL at' cs) c
  obtain ⟨n, hn⟩ : ∃ n, n = segs (knL at' cs) c := ⟨_, rfl⟩
  rw [← hn]
  have hnl : n ≤ at'.length := by rw [hn, ← hl]; exact segs_le
  have h0 : (((knL at' cs).getD 0 zK).x, ((knL at' cs).getD 0 zK).y) = gP at' 0 := by rw [knL_get (by omega)]; rfl
  by_cases hn0 : n = 0
  · subst hn0
    have a1 := choose13_0 (knL at' cs) c hv hn.symm
    have a2 := angles14_0 (knL at' cs) c hv hn.symm
    rw [h0] at a1
    have hcf := segs0_c (by omega) hn.symm
    subst hcf
    exact ⟨[gP at' 0], nilS, a1, a2, .inr ⟨rfl, rfl⟩, rfl, fun i hi => by omega⟩
  · have hal : ∀ r ∈ arcs0 (knL at' cs) c, Alone r := by
      intro r hr
      obtain ⟨i, hi, rfl⟩ := arcs0_mem hr
      have F := arc_f (settledW (knL at' cs) c) i
      rw [← hn] at hi
      have hjm : (i + 1) % (knL at' cs).length < (knL at' cs).length := Nat.mod_lt _ (by omega)
      have L := hG.L i (by omega)
      have C := hG.C _ hjm
      have P := hG.P i (by omega)
      unfold Alone
      rw [F.a, F.b, hsl]
      omega
    have hslv := slv_alone (by omega) hal
    have hok := ok_alone hv hal
    have a1 := choose13 (knL at' cs) c _ hv hslv hok
    have a2 := angles14 (knL at' cs) c _ hv hslv
    have hrl := hslv.len
    obtain ⟨rs, hrs⟩ : ∃ rs, rs = (arcs0 (knL at' cs) c).map fin1 := ⟨_, rfl⟩
    have hst : ∀ i, i < n → StrOk (gP at' i) (gP at' ((i + 1) % at'.length)) (rs.getD i zA) := by
      intro i hi
      have hg : rs.getD i zA = fin1 (arcW (settledW (knL at' cs) c) i) := by
        have := arcs0_get (l := knL at' cs) (c := c) (i := i) (by omega)
        have hlt : i < (arcs0 (knL at' cs) c).length := by rw [arcs0_len]; omega
        rw [hrs, ← this]
        simp [List.getD, hlt]
      have F := arc_f (settledW (knL at' cs) c) i
      have hjm : (i + 1) % (knL at' cs).length < (knL at' cs).length := Nat.mod_lt _ (by omega)
      have L := hG.L i (by omega)
      have C := hG.C _ hjm
      have P := hG.P i (by omega)
      have X1 := hG.x i (by omega)
      have Y1 := hG.y i (by omega)
      have X2 := hG.x _ hjm
      have Y2 := hG.y _ hjm
      obtain ⟨q, hq⟩ : ∃ q, q = arcW (settledW (knL at' cs) c) i := ⟨_, rfl⟩
      rw [← hq] at F hg
      obtain ⟨f1, f2, f3, f4, f5, f6, f7, f8, f9⟩ := F
      rw [hsl] at f3 f4 f6
      rw [X1, knL_get (by omega)] at f1
      rw [Y1, knL_get (by omega)] at f2
      rw [X2, knL_get (by omega), hl] at f3
      rw [Y2, knL_get (by omega), hl] at f4
      rw [← f5] at L P
      rw [← f6] at C P
      unfold samePt at L
      rw [knL_get (by omega), knL_get (by omega), hl] at L
      rw [knL_get (by omega), hl] at C
      simp only [stK] at f1 f2 f3 f4 L C
      rw [hg]
      have e : fin1 q = ⟨q.fx, q.fy, q.tx, q.ty, q.a, q.b, q.far, q.dir, q.u, q.v, if q.a.op = 3 then q.st else true⟩ := by
        unfold fin1 stW
        split <;> rfl
      rw [e]
      refine ⟨by rw [Prod.ext_iff]; exact ⟨f1, f2⟩, by rw [Prod.ext_iff]; exact ⟨f3, f4⟩, f7, f8, ?_⟩
      simp only
      by_cases h3 : q.a.op = 3
      · have hb3 := P.1 h3
        obtain ⟨_, l1, l2, l3, l4⟩ := L.resolve_left (by omega)
        obtain ⟨_, c1, c2⟩ := C.resolve_left (by omega)
        exact .inl ⟨h3, by rw [Prod.ext_iff]; exact ⟨l1, l2⟩, by rw [Prod.ext_iff]; exact ⟨c1, c2⟩, by rw [Prod.ext_iff]; exact ⟨l3, l4⟩⟩
      · have hb3 : ¬ q.b.op = 3 := fun q => h3 (P.2 q)
        obtain ⟨l1, l2⟩ := L.resolve_right (fun q => h3 q.1)
        obtain ⟨c1, c2⟩ := C.resolve_right (fun q => hb3 q.1)
        exact .inr ⟨l1, l2, c2, by rw [if_neg h3]⟩
    rw [← hrs, ← hn] at hrl a1
    rw [← hrs] at a2
    rw [h0] at a1
    have hjm : ∀ i, (i + 1) % at'.length < at'.length := fun i => Nat.mod_lt _ (by omega)
    have hce : chErr rs = 0 := by
      refine ch_err rs fun r hr => ?_
      obtain ⟨i, hi⟩ := List.getElem?_of_mem hr
      have hi' := (List.getElem?_eq_some_iff.1 hi).1
      rw [getA hi'] at hi
      cases hi
      exact (str_ctl (hst i (by omega)) (hp i (by omega)) (hp _ (hjm i))).1
    unfold chR at a1
    rw [if_pos hce] at a1
    have hne : rs ≠ [] := by
      intro q
      rw [q] at hrl
      exact hn0 hrl.symm
    refine ⟨gP at' 0 :: chPts n c 0 rs, .ro 2 (rs.map UvC), a1, a2, .inl ?_, ?_, fun i hi => ?_⟩
    · congr 1
      refine List.ext_getElem? fun i => ?_
      rw [List.getElem?_map, List.getElem?_replicate]
      split
      · rename_i hi
        have S := hst i hi
        rw [getA (by omega), Option.map_some, UvC, S.u, S.v]
      · rw [List.getElem?_eq_none (by omega)]; rfl
    · rw [List.length_cons, ch_len n c rs 0 (by omega) hne, hrl]
      split <;> omega
    · have S := hst i hi
      obtain ⟨_, t1, t2, i1, i2⟩ := str_ctl S (hp i (by omega)) (hp _ (hjm i))
      obtain ⟨g1, g2, g3⟩ := ch_get n c rs 0 (gP at' 0) (by omega) i (by omega)
      refine ⟨_, _, ?_, g2, g3, i1, i2, t1, t2⟩
      rw [g1]
      by_cases hi0 : i = 0
      · subst hi0; rfl
      · rw [if_neg hi0]
        have S' := hst (i - 1) (by omega)
        rw [S'.t, show (i - 1 + 1) = i by omega, Nat.mod_eq_of_lt (by omega)]
end

section
set_option maxRecDepth 20000
attribute [local go_sem] eqk27' clKnsL clKns clArsL clUvR clPtsT clPtsR eqk44'
abbrev U16C (x : Int) : List AV := [.v (.int .u16 x)]
abbrev U16s (l : List Int) : AV := .ro 1 (l.map U16C)
theorem clU16 (l : List Int) : Cl (U16s l) ↔ True := iff_true_intro (.ro (fun c hc s hs => by obtain ⟨r, _, rfl⟩ := List.mem_map.1 hc; simp at hs; subst hs; exact .v _))
theorem clU16L (l : List Int) : (∀ c ∈ l.map U16C, ∀ s ∈ c, Cl s) ↔ True := iff_true_intro (Cl_ro.1 ((clU16 l).2 trivial))
attribute [local go_sem] clU16 clU16L
theorem clRepT (q : Nat) : (∀ c ∈ List.replicate q [I 0, I 0], ∀ s ∈ c, Cl s) ↔ True := iff_true_intro (fun c hc s hs => by rw [List.eq_of_mem_replicate hc] at hs; simp at hs; rcases hs with rfl | rfl <;> exact .v _)
attribute [local go_sem] clRepT
theorem knP_len (at' : List (Int × Int)) (cs : List Int) (i : Nat) : (knP at' cs i).length = i := by simp [knP]
theorem knP_suc (at' : List (Int × Int)) (cs : List Int) (i : Nat) : knP at' cs (i + 1) = knP at' cs i ++ [stK (gP at' i) (valK cs i)] := by simp [knP, List.range_succ]
set_option maxHeartbeats 4000000 in
theorem hobbyStraight (at' : List (Int × Int)) (cs : List Int) (c : Bool) (hc : ∀ x ∈ cs, 0 ≤ x ∧ x ≤ 65535) : PFun Try.prog 3 [Pts at', U16s cs, Bo c] (Bo true) := by
  by_cases hl1 : ((at'.length : Nat) : Int) < 1
  · refine PFun.intro 400 mixed Try.func3 (by kernel_rfl) rfl (by first | exact .v _ | (simp [Cl_v, Cl_t, Cl_g, Cl_fn, Cl_rp, Cl_ro]; done) | (simp [Cl_v, Cl_t, Cl_g, Cl_fn, Cl_rp, Cl_ro, or_imp, forall_and]; done) | (split <;> simp [Cl_v, Cl_t, Cl_g, Cl_fn, Cl_rp, Cl_ro])) (Nat.le_of_ble_eq_true rfl) ?_; rw [Try.ntmps3, Try.results3]
    simp -dsimp -implicitDefEqProofs (maxSteps := 1000000) only [go_sem, ↓reduceIte, Nat.reduceAdd, Nat.reduceSub, Nat.reduceMul, Nat.reduceLT, Nat.reduceLeDiff, Nat.reduceEqDiff, Nat.reduceBEq, Nat.reduceBNe, Int.reduceToNat, Int.reduceLT, Int.reduceLE, Int.reduceNeg, reduceCtorEq, Int.reduceEq, Int.reduceNe, List.length_map, hl1]
    refine AtFn.pure0 awake10 ?_
    simp -dsimp -implicitDefEqProofs (maxSteps := 1000000) only [go_sem, ↓reduceIte, Nat.reduceAdd, Nat.reduceSub, Nat.reduceMul, Nat.reduceLT, Nat.reduceLeDiff, Nat.reduceEqDiff, Nat.reduceBEq, Nat.reduceBNe, Int.reduceToNat, Int.reduceLT, Int.reduceLE, Int.reduceNeg, reduceCtorEq, Int.reduceEq, Int.reduceNe]
  by_cases hl2 : (30 : Int) < ((at'.length : Nat) : Int)
  · refine PFun.intro 400 mixed Try.func3 (by kernel_rfl) rfl (by first | exact .v _ | (simp [Cl_v, Cl_t, Cl_g, Cl_fn, Cl_rp, Cl_ro]; done) | (simp [Cl_v, Cl_t, Cl_g, Cl_fn, Cl_rp, Cl_ro, or_imp, forall_and]; done) | (split <;> simp [Cl_v, Cl_t, Cl_g, Cl_fn, Cl_rp, Cl_ro])) (Nat.le_of_ble_eq_true rfl) ?_; rw [Try.ntmps3, Try.results3]
    simp -dsimp -implicitDefEqProofs (maxSteps := 1000000) only [go_sem, ↓reduceIte, Nat.reduceAdd, Nat.reduceSub, Nat.reduceMul, Nat.reduceLT, Nat.reduceLeDiff, Nat.reduceEqDiff, Nat.reduceBEq, Nat.reduceBNe, Int.reduceToNat, Int.reduceLT, Int.reduceLE, Int.reduceNeg, reduceCtorEq, Int.reduceEq, Int.reduceNe, List.length_map, hl1, hl2]
    refine AtFn.pure0 awake10 ?_
    simp -dsimp -implicitDefEqProofs (maxSteps := 1000000) only [go_sem, ↓reduceIte, Nat.reduceAdd, Nat.reduceSub, Nat.reduceMul, Nat.reduceLT, Nat.reduceLeDiff, Nat.reduceEqDiff, Nat.reduceBEq, Nat.reduceBNe, Int.reduceToNat, Int.reduceLT, Int.reduceLE, Int.reduceNeg, reduceCtorEq, Int.reduceEq, Int.reduceNe]
  obtain ⟨n, hn⟩ : ∃ n, n = at'.length := ⟨_, rfl⟩
  refine PFun.intro 400 mixed Try.func3 (by kernel_rfl) rfl (by first | exact .v _ | (simp [Cl_v, Cl_t, Cl_g, Cl_fn, Cl_rp, Cl_ro]; done) | (simp [Cl_v, Cl_t, Cl_g, Cl_fn, Cl_rp, Cl_ro, or_imp, forall_and]; done) | (split <;> simp [Cl_v, Cl_t, Cl_g, Cl_fn, Cl_rp, Cl_ro])) (Nat.le_of_ble_eq_true rfl) ?_; rw [Try.ntmps3, Try.results3]
  simp -dsimp -implicitDefEqProofs (maxSteps := 1000000) only [go_sem, ↓reduceIte, Nat.reduceAdd, Nat.reduceSub, Nat.reduceMul, Nat.reduceLT, Nat.reduceLeDiff, Nat.reduceEqDiff, Nat.reduceBEq, Nat.reduceBNe, Int.reduceToNat, Int.reduceLT, Int.reduceLE, Int.reduceNeg, reduceCtorEq, Int.reduceEq, Int.reduceNe, List.length_map, hl1, hl2]
  refine ⟨{i : Nat // i ≤ n ∧ ∀ j, j < i → inP (gP at' j) = true}, fun i => ⟨177, tl [(0, Pts at'), (1, U16s cs), (2, Bo c), (7, .sl 0 0 i.1), (30, Pts at'), (31, I (n : Nat)), (32, I i.1)], [(0, ⟨12, (knP at' cs i.1).map KnC⟩)], 1, .nil⟩, fun i => n - i.1,
    ⟨⟨0, by omega, fun j hj => by omega⟩, Le.tl0 (Ls := []) (y := none) [] (by simp -dsimp -implicitDefEqProofs (maxSteps := 1000000) only [go_sem, ↓reduceIte, Nat.reduceAdd, Nat.reduceSub, Nat.reduceMul, Nat.reduceLT, Nat.reduceLeDiff, Nat.reduceEqDiff, Nat.reduceBEq, Nat.reduceBNe, Int.reduceToNat, Int.reduceLT, Int.reduceLE, Int.reduceNeg, reduceCtorEq, Int.reduceEq, Int.reduceNe, hn]) (by simp -dsimp -implicitDefEqProofs (maxSteps := 1000000) only [go_sem, ↓reduceIte, Nat.reduceAdd, Nat.reduceSub, Nat.reduceMul, Nat.reduceLT, Nat.reduceLeDiff, Nat.reduceEqDiff, Nat.reduceBEq, Nat.reduceBNe, Int.reduceToNat, Int.reduceLT, Int.reduceLE, Int.reduceNeg, reduceCtorEq, Int.reduceEq, Int.reduceNe]; rfl) (by simp) (by simp [sg]) trivial⟩, fun i => ?_⟩
  obtain ⟨i, hi, hall⟩ := i
  simp -dsimp -implicitDefEqProofs (maxSteps := 1000000) only [go_sem, ↓reduceIte, Nat.reduceAdd, Nat.reduceSub, Nat.reduceMul, Nat.reduceLT, Nat.reduceLeDiff, Nat.reduceEqDiff, Nat.reduceBEq, Nat.reduceBNe, Int.reduceToNat, Int.reduceLT, Int.reduceLE, Int.reduceNeg, reduceCtorEq, Int.reduceEq, Int.reduceNe]
  refine ⟨fun h => ?_, fun hout => ?_⟩
  · have hin : i < n := by omega
    have e3 : wr ((i : Int) + 1) = ((i + 1 : Nat) : Int) := by rw [wr_in] <;> omega
    have hg := getP (l := at') (i := i) (by omega)
    have hat := at11 (gP at' i)
    have c1 : (i : Int) < ((n : Nat) : Int) := by omega
    simp -dsimp -implicitDefEqProofs (maxSteps := 1000000) only [go_sem, ↓reduceIte, Nat.reduceAdd, Nat.reduceSub, Nat.reduceMul, Nat.reduceLT, Nat.reduceLeDiff, Nat.reduceEqDiff, Nat.reduceBEq, Nat.reduceBNe, Int.reduceToNat, Int.reduceLT, Int.reduceLE, Int.reduceNeg, reduceCtorEq, Int.reduceEq, Int.reduceNe, Int.toNat_natCast, Int.natCast_nonneg, Nat.zero_add, hg, List.getElem?_map]
    refine AtFn.pure0 hat ?_
    cases hb : inP (gP at' i) with
    | false =>
      simp -dsimp -implicitDefEqProofs (maxSteps := 1000000) only [go_sem, ↓reduceIte, Nat.reduceAdd, Nat.reduceSub, Nat.reduceMul, Nat.reduceLT, Nat.reduceLeDiff, Nat.reduceEqDiff, Nat.reduceBEq, Nat.reduceBNe, Int.reduceToNat, Int.reduceLT, Int.reduceLE, Int.reduceNeg, reduceCtorEq, Int.reduceEq, Int.reduceNe]
      refine AtFn.pure0 awake10 ?_
      simp -dsimp -implicitDefEqProofs (maxSteps := 1000000) only [go_sem, ↓reduceIte, Nat.reduceAdd, Nat.reduceSub, Nat.reduceMul, Nat.reduceLT, Nat.reduceLeDiff, Nat.reduceEqDiff, Nat.reduceBEq, Nat.reduceBNe, Int.reduceToNat, Int.reduceLT, Int.reduceLE, Int.reduceNeg, reduceCtorEq, Int.reduceEq, Int.reduceNe]
    | true =>
      have hall2 : ∀ j, j < i + 1 → inP (gP at' j) = true := fun j hj => by
        by_cases e : j = i
        · subst e; exact hb
        · exact hall j (by omega)
      have kn := fun v => knot12 (gP at' i).1 (gP at' i).2 2 v
      by_cases hc0 : (0 : Int) < ((cs.length : Nat) : Int)
      · have hm : i % cs.length < cs.length := Nat.mod_lt _ (by omega)
        have t1 : (i : Int).tmod ((cs.length : Nat) : Int) = ((i % cs.length : Nat) : Int) := tmodN _ _
        have hmi := Nat.mod_le i cs.length
        have t2 : wr ((i % cs.length : Nat) : Int) = ((i % cs.length : Nat) : Int) := wr_in (by omega) (by omega)
        have hgc := getI hm
        have hx := hc (cs.getD (i % cs.length) 0) (List.mem_of_getElem? hgc)
        have hvk : valK cs i = cs.getD (i % cs.length) 0 * 7 := by unfold valK; rw [if_neg (by omega)]
        have t3 : wr (cs.getD (i % cs.length) 0) = cs.getD (i % cs.length) 0 := wr_in (by omega) (by omega)
        have t4 : wr (cs.getD (i % cs.length) 0 * 7) = valK cs i := by rw [hvk]; exact wr_in (by omega) (by omega)
        have hn0 : ¬ ((cs.length : Nat) : Int) = 0 := by omega
        simp -dsimp -implicitDefEqProofs (maxSteps := 1000000) only [go_sem, ↓reduceIte, Nat.reduceAdd, Nat.reduceSub, Nat.reduceMul, Nat.reduceLT, Nat.reduceLeDiff, Nat.reduceEqDiff, Nat.reduceBEq, Nat.reduceBNe, Int.reduceToNat, Int.reduceLT, Int.reduceLE, Int.reduceNeg, reduceCtorEq, Int.reduceEq, Int.reduceNe, List.length_map, hc0, t1, t2, hn0, Int.natCast_nonneg, Int.toNat_natCast, List.getElem?_map, hgc, t3, t4]
        refine AtFn.pure0 (kn (valK cs i)) ?_
        have f1 : takeA 0 i ((knP at' cs i).map KnC) = (knP at' cs i).map KnC := takeKn2 _ _ (by rw [knP_len]; exact Nat.le_refl _)
        have f2 : (knP at' cs i).map KnC ++ [KnC ⟨(gP at' i).1, (gP at' i).2, ⟨2, 65536, valK cs i, 0, 0⟩, ⟨2, 65536, valK cs i, 0, 0⟩⟩] = (knP at' cs (i + 1)).map KnC := by rw [knP_suc, List.map_append]; rfl
        have f4 : i ≤ ((knP at' cs i).map KnC).length := by rw [List.length_map, knP_len]; exact Nat.le_refl _
        have f5 : ((knP at' cs i).map KnC).length ≤ 274877906943 := by rw [List.length_map, knP_len]; omega
        have f3 : ((knP at' cs (i + 1)).map KnC).length = i + 1 := by rw [List.length_map, knP_len]
        simp -dsimp -implicitDefEqProofs (maxSteps := 1000000) only [go_sem, ↓reduceIte, Nat.reduceAdd, Nat.reduceSub, Nat.reduceMul, Nat.reduceLT, Nat.reduceLeDiff, Nat.reduceEqDiff, Nat.reduceBEq, Nat.reduceBNe, Int.reduceToNat, Int.reduceLT, Int.reduceLE, Int.reduceNeg, reduceCtorEq, Int.reduceEq, Int.reduceNe, Int.toNat_natCast, Int.natCast_nonneg, Nat.zero_add, f1, f4, f5, f2, f3]
        refine ⟨⟨i + 1, by omega, hall2⟩, by show n - (i + 1) < n - i; omega, Le.tl (Ls := []) (y := none) [(0, 3)] (by simp -dsimp -implicitDefEqProofs (maxSteps := 1000000) only [go_sem, ↓reduceIte, Nat.reduceAdd, Nat.reduceSub, Nat.reduceMul, Nat.reduceLT, Nat.reduceLeDiff, Nat.reduceEqDiff, Nat.reduceBEq, Nat.reduceBNe, Int.reduceToNat, Int.reduceLT, Int.reduceLE, Int.reduceNeg, reduceCtorEq, Int.reduceEq, Int.reduceNe, e3]) ?_ (by simp) (by simp [sg]) trivial⟩
        simp -dsimp -implicitDefEqProofs (maxSteps := 1000000) only [go_sem, ↓reduceIte, Nat.reduceAdd, Nat.reduceSub, Nat.reduceMul, Nat.reduceLT, Nat.reduceLeDiff, Nat.reduceEqDiff, Nat.reduceBEq, Nat.reduceBNe, Int.reduceToNat, Int.reduceLT, Int.reduceLE, Int.reduceNeg, reduceCtorEq, Int.reduceEq, Int.reduceNe]
        exact renL_cl rfl ((clKnsL _).2 trivial)
      · have hvk : valK cs i = 65536 := by unfold valK; rw [if_pos (by omega)]
        simp -dsimp -implicitDefEqProofs (maxSteps := 1000000) only [go_sem, ↓reduceIte, Nat.reduceAdd, Nat.reduceSub, Nat.reduceMul, Nat.reduceLT, Nat.reduceLeDiff, Nat.reduceEqDiff, Nat.reduceBEq, Nat.reduceBNe, Int.reduceToNat, Int.reduceLT, Int.reduceLE, Int.reduceNeg, reduceCtorEq, Int.reduceEq, Int.reduceNe, List.length_map, hc0]
        rw [← hvk]
        refine AtFn.pure0 (kn (valK cs i)) ?_
        have f1 : takeA 0 i ((knP at' cs i).map KnC) = (knP at' cs i).map KnC := takeKn2 _ _ (by rw [knP_len]; exact Nat.le_refl _)
        have f2 : (knP at' cs i).map KnC ++ [KnC ⟨(gP at' i).1, (gP at' i).2, ⟨2, 65536, valK cs i, 0, 0⟩, ⟨2, 65536, valK cs i, 0, 0⟩⟩] = (knP at' cs (i + 1)).map KnC := by rw [knP_suc, List.map_append]; rfl
        have f4 : i ≤ ((knP at' cs i).map KnC).length := by rw [List.length_map, knP_len]; exact Nat.le_refl _
        have f5 : ((knP at' cs i).map KnC).length ≤ 274877906943 := by rw [List.length_map, knP_len]; omega
        have f3 : ((knP at' cs (i + 1)).map KnC).length = i + 1 := by rw [List.length_map, knP_len]
        simp -dsimp -implicitDefEqProofs (maxSteps := 1000000) only [go_sem, ↓reduceIte, Nat.reduceAdd, Nat.reduceSub, Nat.reduceMul, Nat.reduceLT, Nat.reduceLeDiff, Nat.reduceEqDiff, Nat.reduceBEq, Nat.reduceBNe, Int.reduceToNat, Int.reduceLT, Int.reduceLE, Int.reduceNeg, reduceCtorEq, Int.reduceEq, Int.reduceNe, Int.toNat_natCast, Int.natCast_nonneg, Nat.zero_add, f1, f4, f5, f2, f3]
        refine ⟨⟨i + 1, by omega, hall2⟩, by show n - (i + 1) < n - i; omega, Le.tl (Ls := []) (y := none) [(0, 3)] (by simp -dsimp -implicitDefEqProofs (maxSteps := 1000000) only [go_sem, ↓reduceIte, Nat.reduceAdd, Nat.reduceSub, Nat.reduceMul, Nat.reduceLT, Nat.reduceLeDiff, Nat.reduceEqDiff, Nat.reduceBEq, Nat.reduceBNe, Int.reduceToNat, Int.reduceLT, Int.reduceLE, Int.reduceNeg, reduceCtorEq, Int.reduceEq, Int.reduceNe, e3]) ?_ (by simp) (by simp [sg]) trivial⟩
        simp -dsimp -implicitDefEqProofs (maxSteps := 1000000) only [go_sem, ↓reduceIte, Nat.reduceAdd, Nat.reduceSub, Nat.reduceMul, Nat.reduceLT, Nat.reduceLeDiff, Nat.reduceEqDiff, Nat.reduceBEq, Nat.reduceBNe, Int.reduceToNat, Int.reduceLT, Int.reduceLE, Int.reduceNeg, reduceCtorEq, Int.reduceEq, Int.reduceNe]
        exact renL_cl rfl ((clKnsL _).2 trivial)
  · have hin : i = n := by omega
    subst hin
    obtain ⟨pts, uv, ha⟩ := ans at' cs c (by omega) (by omega) (fun j hj => hall j (by omega)) hc
    obtain ⟨hch, han, huv, hlen, hpt⟩ := ha
    have hk : knP at' cs i = knL at' cs := by rw [hn]; rfl
    rw [hk]
    have hkl := knL_len at' cs
    have hik : i = (knL at' cs).length := by omega
    have hsg : segs (knL at' cs) c = if c then i else i - 1 := by unfold segs; rw [hkl, ← hn]
    have hr1 : ∀ (σ : Nat → Nat), Ren σ [] (if 0 + i ≤ ((knL at' cs).map KnC).length then AV.ro 12 (takeA 0 i ((knL at' cs).map KnC)) else AV.unk) (Kns (knL at' cs)) := fun σ => by
      rw [if_pos (by rw [List.length_map]; omega), takeKn2 _ _ (by omega)]
      exact .cl ((clKns _).2 trivial)
    refine AtFn.le ⟨177, tl [(0, Pts at'), (2, Bo c), (7, Kns (knL at' cs)), (64, Kns (knL at' cs)), (65, Bo c)], [], 0, .nil⟩ [Kns (knL at' cs), Bo c] (Le.ftl (Ls := []) (y := none) [0] [] (by simp -dsimp -implicitDefEqProofs (maxSteps := 1000000) only [go_sem, ↓reduceIte, Nat.reduceAdd, Nat.reduceSub, Nat.reduceMul, Nat.reduceLT, Nat.reduceLeDiff, Nat.reduceEqDiff, Nat.reduceBEq, Nat.reduceBNe, Int.reduceToNat, Int.reduceLT, Int.reduceLE, Int.reduceNeg, reduceCtorEq, Int.reduceEq, Int.reduceNe, fz]; exact ⟨hr1 _, hr1 _⟩) (by simp -dsimp -implicitDefEqProofs (maxSteps := 1000000) only [go_sem, ↓reduceIte, Nat.reduceAdd, Nat.reduceSub, Nat.reduceMul, Nat.reduceLT, Nat.reduceLeDiff, Nat.reduceEqDiff, Nat.reduceBEq, Nat.reduceBNe, Int.reduceToNat, Int.reduceLT, Int.reduceLE, Int.reduceNeg, reduceCtorEq, Int.reduceEq, Int.reduceNe, fz, fzB]) (by simp) (by simp [sg]) trivial) (by intro fo xs ts h; cases h; exact ⟨by simp -dsimp -implicitDefEqProofs (maxSteps := 1000000) only [go_sem, ↓reduceIte, Nat.reduceAdd, Nat.reduceSub, Nat.reduceMul, Nat.reduceLT, Nat.reduceLeDiff, Nat.reduceEqDiff, Nat.reduceBEq, Nat.reduceBNe, Int.reduceToNat, Int.reduceLT, Int.reduceLE, Int.reduceNeg, reduceCtorEq, Int.reduceEq, Int.reduceNe], by simp -dsimp -implicitDefEqProofs (maxSteps := 1000000) only [go_sem, ↓reduceIte, Nat.reduceAdd, Nat.reduceSub, Nat.reduceMul, Nat.reduceLT, Nat.reduceLeDiff, Nat.reduceEqDiff, Nat.reduceBEq, Nat.reduceBNe, Int.reduceToNat, Int.reduceLT, Int.reduceLE, Int.reduceNeg, reduceCtorEq, Int.reduceEq, Int.reduceNe]⟩) ?_
    unfold PaR at hch
    obtain ⟨q, hq⟩ : ∃ q, q = segs (knL at' cs) c := ⟨_, rfl⟩
    rw [← hq] at huv hlen hpt hsg
    have hcp : Cl (.ro 2 (pts.map PtC)) := (clPtsR pts).2 trivial
    have w1 : wr (((at'.length : Nat) : Int) - 1) = ((i - 1 : Nat) : Int) := by rw [wr_in] <;> omega
    have hqi : q ≤ i := by rw [hsg]; split <;> omega
    have w3 : wr (3 * ((q : Nat) : Int)) = ((3 * q : Nat) : Int) := by rw [wr_in] <;> omega
    have w4 : wr (((3 * q : Nat) : Int) + 1) = ((3 * q + 1 : Nat) : Int) := by rw [wr_in] <;> omega
    have ne2 : ¬ ((3 * q + 1 : Nat) : Int) = ((3 * q : Nat) : Int) := by omega
    have ne : ¬ ((3 * q : Nat) : Int) = ((3 * q + 1 : Nat) : Int) := by omega
    rcases huv with rfl | ⟨hq0, rfl⟩
    · cases c with
      | true =>
        have hqc : q = i := hsg
        have hlc : pts.length = 3 * q := hlen
        have w2 : wr (((i - 1 : Nat) : Int) + 1) = ((q : Nat) : Int) := by rw [wr_in] <;> omega
        refine AtFn.pure0 hch ?_
        simp -dsimp -implicitDefEqProofs (maxSteps := 1000000) only [go_sem, ↓reduceIte, Nat.reduceAdd, Nat.reduceSub, Nat.reduceMul, Nat.reduceLT, Nat.reduceLeDiff, Nat.reduceEqDiff, Nat.reduceBEq, Nat.reduceBNe, Int.reduceToNat, Int.reduceLT, Int.reduceLE, Int.reduceNeg, reduceCtorEq, Int.reduceEq, Int.reduceNe]
        refine AtFn.pure0 han ?_
        simp -dsimp -implicitDefEqProofs (maxSteps := 1000000) only [go_sem, ↓reduceIte, Nat.reduceAdd, Nat.reduceSub, Nat.reduceMul, Nat.reduceLT, Nat.reduceLeDiff, Nat.reduceEqDiff, Nat.reduceBEq, Nat.reduceBNe, Int.reduceToNat, Int.reduceLT, Int.reduceLE, Int.reduceNeg, reduceCtorEq, Int.reduceEq, Int.reduceNe, w1, w2, List.length_replicate, w3, w4, List.length_map, hlc, ne, ne2, true_implies]
        refine ⟨{k : Nat // k ≤ q}, fun k => ⟨177, tl [(0, Pts at'), (11, .ptr 0 0 0), (13, .ro 2 (List.replicate q [I 0, I 0])), (15, I (q : Nat)), (16, I k.1)], [(0, ⟨2, [[.ro 2 (pts.map PtC), Bo true]]⟩)], 1, .nil⟩, fun k => q - k.1,
          ⟨⟨0, by omega⟩, Le.tl (Ls := []) (y := none) [] (by simp -dsimp -implicitDefEqProofs (maxSteps := 1000000) only [go_sem, ↓reduceIte, Nat.reduceAdd, Nat.reduceSub, Nat.reduceMul, Nat.reduceLT, Nat.reduceLeDiff, Nat.reduceEqDiff, Nat.reduceBEq, Nat.reduceBNe, Int.reduceToNat, Int.reduceLT, Int.reduceLE, Int.reduceNeg, reduceCtorEq, Int.reduceEq, Int.reduceNe]) ?_ (by simp) (by simp [sg]) trivial⟩, fun k => ?_⟩
        · simp -dsimp -implicitDefEqProofs (maxSteps := 1000000) only [go_sem, ↓reduceIte, Nat.reduceAdd, Nat.reduceSub, Nat.reduceMul, Nat.reduceLT, Nat.reduceLeDiff, Nat.reduceEqDiff, Nat.reduceBEq, Nat.reduceBNe, Int.reduceToNat, Int.reduceLT, Int.reduceLE, Int.reduceNeg, reduceCtorEq, Int.reduceEq, Int.reduceNe]
          exact renL_cl rfl (by simp -dsimp -implicitDefEqProofs (maxSteps := 1000000) only [go_sem, ↓reduceIte, Nat.reduceAdd, Nat.reduceSub, Nat.reduceMul, Nat.reduceLT, Nat.reduceLeDiff, Nat.reduceEqDiff, Nat.reduceBEq, Nat.reduceBNe, Int.reduceToNat, Int.reduceLT, Int.reduceLE, Int.reduceNeg, reduceCtorEq, Int.reduceEq, Int.reduceNe])
        obtain ⟨k, hk9⟩ := k
        simp -dsimp -implicitDefEqProofs (maxSteps := 1000000) only [go_sem, ↓reduceIte, Nat.reduceAdd, Nat.reduceSub, Nat.reduceMul, Nat.reduceLT, Nat.reduceLeDiff, Nat.reduceEqDiff, Nat.reduceBEq, Nat.reduceBNe, Int.reduceToNat, Int.reduceLT, Int.reduceLE, Int.reduceNeg, reduceCtorEq, Int.reduceEq, Int.reduceNe]
        refine ⟨fun hkq => ?_, fun hkq => ?_⟩
        · have hkq' : k < q := by omega
          obtain ⟨b, d, g1, g2, g3, ib, id', t1, t2⟩ := hpt k hkq'
          have hjm : (k + 1) % at'.length < at'.length := Nat.mod_lt _ (by omega)
          obtain ⟨j, hj⟩ : ∃ j, j = (k + 1) % at'.length := ⟨_, rfl⟩
          have e1 : wr ((k : Int) + 1) = ((k + 1 : Nat) : Int) := by rw [wr_in] <;> omega
          have e2 : (((k + 1 : Nat) : Int)).tmod (at'.length : Int) = ((j : Nat) : Int) := by rw [hj]; exact tmodN _ _
          rw [← hj] at hjm t1 t2
          have e3 : wr ((j : Nat) : Int) = ((j : Nat) : Int) := wr_in (by omega) (by omega)
          have hn0 : ¬ ((at'.length : Nat) : Int) = 0 := by omega
          have p1 := getP (l := at') (i := k) (by omega)
          have p2 := getP (l := at') (i := j) hjm
          have f1 : wr (3 * (k : Int)) = ((3 * k : Nat) : Int) := by rw [wr_in] <;> omega
          have f2 : wr (((3 * k : Nat) : Int) + 1) = ((3 * k + 1 : Nat) : Int) := by rw [wr_in] <;> omega
          have f3 : wr (((3 * k : Nat) : Int) + 2) = ((3 * k + 2 : Nat) : Int) := by rw [wr_in] <;> omega
          have d1 := third15 (gP at' k) (gP at' j) b (hall k (by omega)) (hall j (by omega)) ib t1
          have d2 := third15 (gP at' j) (gP at' k) d (hall j (by omega)) (hall k (by omega)) id' t2
          have hr9 : (List.replicate q [I 0, I 0])[k]? = some [I 0, I 0] := by rw [List.getElem?_replicate, if_pos hkq']
          refine AtCode.drawB 14 [([], []), ([], []), ([0, 1], []), ([0, 1, 2], []), ([], [13]), ([], [13]), ([5], [13]), ([], [13]), ([7], [13]), ([5, 6, 7, 8], [13]), ([4, 5, 6, 7, 8, 9], [13]), ([4, 5, 6, 7, 8, 9, 10], [13]), ([], []), ([], []), ([0, 1, 2, 3, 12, 13], []), ([0, 1, 2, 3, 4, 5, 6, 7, 8, 9, 10, 11, 12, 13, 14], [])] [false, true] (by kernel_rfl) ?_
          simp -dsimp -implicitDefEqProofs (maxSteps := 1000000) only [go_sem, ↓reduceIte, Nat.reduceAdd, Nat.reduceSub, Nat.reduceMul, Nat.reduceLT, Nat.reduceLeDiff, Nat.reduceEqDiff, Nat.reduceBEq, Nat.reduceBNe, Int.reduceToNat, Int.reduceLT, Int.reduceLE, Int.reduceNeg, reduceCtorEq, Int.reduceEq, Int.reduceNe, List.length_map, e1, e2, e3, hn0, Int.natCast_nonneg, Int.toNat_natCast, List.getElem?_map, p1, p2]
          refine ⟨by kernel_rfl, ?_⟩
          refine AtCode.drawB 16 [([], []), ([0], []), ([], []), ([2], []), ([2, 3], []), ([0, 1, 2, 3, 4], []), ([0, 1, 2, 3, 4, 5], []), ([], [29]), ([7], [29]), ([], [29]), ([9], [29]), ([9, 10], [29]), ([7, 8, 9, 10, 11], [29]), ([7, 8, 9, 10, 11, 12], [29]), ([], []), ([], []), ([0, 1, 2, 3, 4, 5, 6, 14, 15], []), ([0, 1, 2, 3, 4, 5, 6, 7, 8, 9, 10, 11, 12, 13, 14, 15, 16], [])] [false, true] (by kernel_rfl) ?_
          simp -dsimp -implicitDefEqProofs (maxSteps := 1000000) only [go_sem, ↓reduceIte, Nat.reduceAdd, Nat.reduceSub, Nat.reduceMul, Nat.reduceLT, Nat.reduceLeDiff, Nat.reduceEqDiff, Nat.reduceBEq, Nat.reduceBNe, Int.reduceToNat, Int.reduceLT, Int.reduceLE, Int.reduceNeg, reduceCtorEq, Int.reduceEq, Int.reduceNe, f1, f2, f3, Int.natCast_nonneg, Int.toNat_natCast, List.getElem?_map, g2, g3]
          refine ⟨by kernel_rfl, ?_⟩
          refine AtCode.draw 30 [([], []), ([], []), ([0, 1], []), ([0, 1, 2], []), ([], []), ([0, 1, 2, 3, 4], []), ([0, 1, 2, 3, 4, 5], []), ([0, 1, 2, 3, 4, 5, 6], []), ([0, 1, 2, 3, 4, 5, 6, 7], []), ([0, 1, 2, 3, 4, 5, 6], []), ([0, 1, 2, 3, 4, 5, 6, 9], []), ([0, 1, 2, 3, 4, 5, 6, 7, 8, 9, 10], []), ([0, 1, 2, 3, 4, 5, 6, 7, 8, 9, 10, 11], []), ([0, 1, 2, 3, 4, 5, 6], []), ([0, 1, 2, 3, 4, 5, 6, 7, 8, 9, 10, 11, 12, 13], []), ([0, 1, 2, 3, 4, 5, 6, 7, 8, 9, 10, 11, 12, 13, 14], []), ([0, 1, 2, 3, 4, 5, 6, 7, 8, 9, 10, 11, 12, 13, 14, 15], []), ([0, 1, 2, 3, 4, 5, 6, 7, 8, 9, 10, 11, 12, 13, 14, 15, 16], []), ([0, 1, 2, 3, 4, 5, 6, 7, 8, 9, 10, 11, 12, 13, 14, 15, 16], []), ([0, 1, 2, 3, 4, 5, 6, 7, 8, 9, 10, 11, 12, 13, 14, 15, 16], []), ([0, 1, 2, 3, 4, 5, 6, 7, 8, 9, 10, 11, 12, 13, 14, 15, 16, 17, 18, 19], []), ([0, 1, 2, 3, 4, 5, 6, 7, 8, 9, 10, 11, 12, 13, 14, 15, 16, 17, 18, 19, 20], []), ([0, 1, 2, 3, 4, 5, 6, 7, 8, 9, 10, 11, 12, 13, 14, 15, 16, 17, 18, 19, 20, 21], []), ([0, 1, 2, 3, 4, 5, 6, 7, 8, 9, 10, 11, 12, 13, 14, 15, 16, 17, 18, 19, 20, 21, 22], []), ([0, 1, 2, 3, 4, 5, 6, 7, 8, 9, 10, 11, 12, 13, 14, 15, 16, 17, 18, 19, 20, 21, 22, 23], []), ([0, 1, 2, 3, 4, 5, 6, 7, 8, 9, 10, 11, 12, 13, 14, 15, 16, 17, 18, 19, 20, 21, 22, 23], []), ([0, 1, 2, 3, 4, 5, 6, 7, 8, 9, 10, 11, 12, 13, 14, 15, 16, 17, 18, 19, 20, 21, 22, 23], []), ([0, 1, 2, 3, 4, 5, 6, 7, 8, 9, 10, 11, 12, 13, 14, 15, 16, 17, 18, 19, 20, 21, 22, 23, 24, 25, 26], []), ([0, 1, 2, 3, 4, 5, 6, 7, 8, 9, 10, 11, 12, 13, 14, 15, 16, 17, 18, 19, 20, 21, 22, 23, 24, 25, 26, 27], []), ([0, 1, 2, 3, 4, 5, 6, 7, 8, 9, 10, 11, 12, 13, 14, 15, 16, 17, 18, 19, 20, 21, 22, 23, 24, 25, 26, 27, 28], [])] (by kernel_rfl) ?_
          simp -dsimp -implicitDefEqProofs (maxSteps := 1000000) only [go_sem, ↓reduceIte, Nat.reduceAdd, Nat.reduceSub, Nat.reduceMul, Nat.reduceLT, Nat.reduceLeDiff, Nat.reduceEqDiff, Nat.reduceBEq, Nat.reduceBNe, Int.reduceToNat, Int.reduceLT, Int.reduceLE, Int.reduceNeg, reduceCtorEq, Int.reduceEq, Int.reduceNe, f1, Int.natCast_nonneg, Int.toNat_natCast, List.getElem?_map, g1, hr9]
          refine QFn.use _ d1 (by simp -dsimp -implicitDefEqProofs (maxSteps := 1000000) only [go_sem, ↓reduceIte, Nat.reduceAdd, Nat.reduceSub, Nat.reduceMul, Nat.reduceLT, Nat.reduceLeDiff, Nat.reduceEqDiff, Nat.reduceBEq, Nat.reduceBNe, Int.reduceToNat, Int.reduceLT, Int.reduceLE, Int.reduceNeg, reduceCtorEq, Int.reduceEq, Int.reduceNe]) ?_
          simp -dsimp -implicitDefEqProofs (maxSteps := 1000000) only [go_sem, ↓reduceIte, Nat.reduceAdd, Nat.reduceSub, Nat.reduceMul, Nat.reduceLT, Nat.reduceLeDiff, Nat.reduceEqDiff, Nat.reduceBEq, Nat.reduceBNe, Int.reduceToNat, Int.reduceLT, Int.reduceLE, Int.reduceNeg, reduceCtorEq, Int.reduceEq, Int.reduceNe]
          refine QFn.use _ d2 (by simp -dsimp -implicitDefEqProofs (maxSteps := 1000000) only [go_sem, ↓reduceIte, Nat.reduceAdd, Nat.reduceSub, Nat.reduceMul, Nat.reduceLT, Nat.reduceLeDiff, Nat.reduceEqDiff, Nat.reduceBEq, Nat.reduceBNe, Int.reduceToNat, Int.reduceLT, Int.reduceLE, Int.reduceNeg, reduceCtorEq, Int.reduceEq, Int.reduceNe]) ?_
          simp -dsimp -implicitDefEqProofs (maxSteps := 1000000) only [go_sem, ↓reduceIte, Nat.reduceAdd, Nat.reduceSub, Nat.reduceMul, Nat.reduceLT, Nat.reduceLeDiff, Nat.reduceEqDiff, Nat.reduceBEq, Nat.reduceBNe, Int.reduceToNat, Int.reduceLT, Int.reduceLE, Int.reduceNeg, reduceCtorEq, Int.reduceEq, Int.reduceNe]
          refine ⟨⟨k + 1, by omega⟩, by show q - (k + 1) < q - k; omega, Le.tl (Ls := []) (y := none) [] (by simp -dsimp -implicitDefEqProofs (maxSteps := 1000000) only [go_sem, ↓reduceIte, Nat.reduceAdd, Nat.reduceSub, Nat.reduceMul, Nat.reduceLT, Nat.reduceLeDiff, Nat.reduceEqDiff, Nat.reduceBEq, Nat.reduceBNe, Int.reduceToNat, Int.reduceLT, Int.reduceLE, Int.reduceNeg, reduceCtorEq, Int.reduceEq, Int.reduceNe, e1]) ?_ (by simp) (by simp [sg]) trivial⟩
          simp -dsimp -implicitDefEqProofs (maxSteps := 1000000) only [go_sem, ↓reduceIte, Nat.reduceAdd, Nat.reduceSub, Nat.reduceMul, Nat.reduceLT, Nat.reduceLeDiff, Nat.reduceEqDiff, Nat.reduceBEq, Nat.reduceBNe, Int.reduceToNat, Int.reduceLT, Int.reduceLE, Int.reduceNeg, reduceCtorEq, Int.reduceEq, Int.reduceNe]
          exact renL_cl rfl (by simp -dsimp -implicitDefEqProofs (maxSteps := 1000000) only [go_sem, ↓reduceIte, Nat.reduceAdd, Nat.reduceSub, Nat.reduceMul, Nat.reduceLT, Nat.reduceLeDiff, Nat.reduceEqDiff, Nat.reduceBEq, Nat.reduceBNe, Int.reduceToNat, Int.reduceLT, Int.reduceLE, Int.reduceNeg, reduceCtorEq, Int.reduceEq, Int.reduceNe])
        · refine AtFn.pure0 awake10 ?_
          simp -dsimp -implicitDefEqProofs (maxSteps := 1000000) only [go_sem, ↓reduceIte, Nat.reduceAdd, Nat.reduceSub, Nat.reduceMul, Nat.reduceLT, Nat.reduceLeDiff, Nat.reduceEqDiff, Nat.reduceBEq, Nat.reduceBNe, Int.reduceToNat, Int.reduceLT, Int.reduceLE, Int.reduceNeg, reduceCtorEq, Int.reduceEq, Int.reduceNe]
      | false =>
        have hqc : q = i - 1 := hsg
        have hlc : pts.length = 3 * q + 1 := hlen
        have w1' : wr (((at'.length : Nat) : Int) - 1) = ((q : Nat) : Int) := by rw [wr_in] <;> omega
        refine AtFn.pure0 hch ?_
        simp -dsimp -implicitDefEqProofs (maxSteps := 1000000) only [go_sem, ↓reduceIte, Nat.reduceAdd, Nat.reduceSub, Nat.reduceMul, Nat.reduceLT, Nat.reduceLeDiff, Nat.reduceEqDiff, Nat.reduceBEq, Nat.reduceBNe, Int.reduceToNat, Int.reduceLT, Int.reduceLE, Int.reduceNeg, reduceCtorEq, Int.reduceEq, Int.reduceNe]
        refine AtFn.pure0 han ?_
        simp -dsimp -implicitDefEqProofs (maxSteps := 1000000) only [go_sem, ↓reduceIte, Nat.reduceAdd, Nat.reduceSub, Nat.reduceMul, Nat.reduceLT, Nat.reduceLeDiff, Nat.reduceEqDiff, Nat.reduceBEq, Nat.reduceBNe, Int.reduceToNat, Int.reduceLT, Int.reduceLE, Int.reduceNeg, reduceCtorEq, Int.reduceEq, Int.reduceNe, w1', List.length_replicate, w3, w4, List.length_map, hlc, ne, ne2, true_implies]
        refine ⟨{k : Nat // k ≤ q}, fun k => ⟨177, tl [(0, Pts at'), (11, .ptr 0 0 0), (13, .ro 2 (List.replicate q [I 0, I 0])), (15, I (q : Nat)), (16, I k.1)], [(0, ⟨2, [[.ro 2 (pts.map PtC), Bo false]]⟩)], 1, .nil⟩, fun k => q - k.1,
          ⟨⟨0, by omega⟩, Le.tl (Ls := []) (y := none) [] (by simp -dsimp -implicitDefEqProofs (maxSteps := 1000000) only [go_sem, ↓reduceIte, Nat.reduceAdd, Nat.reduceSub, Nat.reduceMul, Nat.reduceLT, Nat.reduceLeDiff, Nat.reduceEqDiff, Nat.reduceBEq, Nat.reduceBNe, Int.reduceToNat, Int.reduceLT, Int.reduceLE, Int.reduceNeg, reduceCtorEq, Int.reduceEq, Int.reduceNe]) ?_ (by simp) (by simp [sg]) trivial⟩, fun k => ?_⟩
        · simp -dsimp -implicitDefEqProofs (maxSteps := 1000000) only [go_sem, ↓reduceIte, Nat.reduceAdd, Nat.reduceSub, Nat.reduceMul, Nat.reduceLT, Nat.reduceLeDiff, Nat.reduceEqDiff, Nat.reduceBEq, Nat.reduceBNe, Int.reduceToNat, Int.reduceLT, Int.reduceLE, Int.reduceNeg, reduceCtorEq, Int.reduceEq, Int.reduceNe]
          exact renL_cl rfl (by simp -dsimp -implicitDefEqProofs (maxSteps := 1000000) only [go_sem, ↓reduceIte, Nat.reduceAdd, Nat.reduceSub, Nat.reduceMul, Nat.reduceLT, Nat.reduceLeDiff, Nat.reduceEqDiff, Nat.reduceBEq, Nat.reduceBNe, Int.reduceToNat, Int.reduceLT, Int.reduceLE, Int.reduceNeg, reduceCtorEq, Int.reduceEq, Int.reduceNe])
        obtain ⟨k, hk9⟩ := k
        simp -dsimp -implicitDefEqProofs (maxSteps := 1000000) only [go_sem, ↓reduceIte, Nat.reduceAdd, Nat.reduceSub, Nat.reduceMul, Nat.reduceLT, Nat.reduceLeDiff, Nat.reduceEqDiff, Nat.reduceBEq, Nat.reduceBNe, Int.reduceToNat, Int.reduceLT, Int.reduceLE, Int.reduceNeg, reduceCtorEq, Int.reduceEq, Int.reduceNe]
        refine ⟨fun hkq => ?_, fun hkq => ?_⟩
        · have hkq' : k < q := by omega
          obtain ⟨b, d, g1, g2, g3, ib, id', t1, t2⟩ := hpt k hkq'
          have hjm : (k + 1) % at'.length < at'.length := Nat.mod_lt _ (by omega)
          obtain ⟨j, hj⟩ : ∃ j, j = (k + 1) % at'.length := ⟨_, rfl⟩
          have e1 : wr ((k : Int) + 1) = ((k + 1 : Nat) : Int) := by rw [wr_in] <;> omega
          have e2 : (((k + 1 : Nat) : Int)).tmod (at'.length : Int) = ((j : Nat) : Int) := by rw [hj]; exact tmodN _ _
          rw [← hj] at hjm t1 t2
          have e3 : wr ((j : Nat) : Int) = ((j : Nat) : Int) := wr_in (by omega) (by omega)
          have hn0 : ¬ ((at'.length : Nat) : Int) = 0 := by omega
          have p1 := getP (l := at') (i := k) (by omega)
          have p2 := getP (l := at') (i := j) hjm
          have f1 : wr (3 * (k : Int)) = ((3 * k : Nat) : Int) := by rw [wr_in] <;> omega
          have f2 : wr (((3 * k : Nat) : Int) + 1) = ((3 * k + 1 : Nat) : Int) := by rw [wr_in] <;> omega
          have f3 : wr (((3 * k : Nat) : Int) + 2) = ((3 * k + 2 : Nat) : Int) := by rw [wr_in] <;> omega
          have d1 := third15 (gP at' k) (gP at' j) b (hall k (by omega)) (hall j (by omega)) ib t1
          have d2 := third15 (gP at' j) (gP at' k) d (hall j (by omega)) (hall k (by omega)) id' t2
          have hr9 : (List.replicate q [I 0, I 0])[k]? = some [I 0, I 0] := by rw [List.getElem?_replicate, if_pos hkq']
          refine AtCode.drawB 14 [([], []), ([], []), ([0, 1], []), ([0, 1, 2], []), ([], [13]), ([], [13]), ([5], [13]), ([], [13]), ([7], [13]), ([5, 6, 7, 8], [13]), ([4, 5, 6, 7, 8, 9], [13]), ([4, 5, 6, 7, 8, 9, 10], [13]), ([], []), ([], []), ([0, 1, 2, 3, 12, 13], []), ([0, 1, 2, 3, 4, 5, 6, 7, 8, 9, 10, 11, 12, 13, 14], [])] [false, true] (by kernel_rfl) ?_
          simp -dsimp -implicitDefEqProofs (maxSteps := 1000000) only [go_sem, ↓reduceIte, Nat.reduceAdd, Nat.reduceSub, Nat.reduceMul, Nat.reduceLT, Nat.reduceLeDiff, Nat.reduceEqDiff, Nat.reduceBEq, Nat.reduceBNe, Int.reduceToNat, Int.reduceLT, Int.reduceLE, Int.reduceNeg, reduceCtorEq, Int.reduceEq, Int.reduceNe, List.length_map, e1, e2, e3, hn0, Int.natCast_nonneg, Int.toNat_natCast, List.getElem?_map, p1, p2]
          refine ⟨by kernel_rfl, ?_⟩
          refine AtCode.drawB 16 [([], []), ([0], []), ([], []), ([2], []), ([2, 3], []), ([0, 1, 2, 3, 4], []), ([0, 1, 2, 3, 4, 5], []), ([], [29]), ([7], [29]), ([], [29]), ([9], [29]), ([9, 10], [29]), ([7, 8, 9, 10, 11], [29]), ([7, 8, 9, 10, 11, 12], [29]), ([], []), ([], []), ([0, 1, 2, 3, 4, 5, 6, 14, 15], []), ([0, 1, 2, 3, 4, 5, 6, 7, 8, 9, 10, 11, 12, 13, 14, 15, 16], [])] [false, true] (by kernel_rfl) ?_
          simp -dsimp -implicitDefEqProofs (maxSteps := 1000000) only [go_sem, ↓reduceIte, Nat.reduceAdd, Nat.reduceSub, Nat.reduceMul, Nat.reduceLT, Nat.reduceLeDiff, Nat.reduceEqDiff, Nat.reduceBEq, Nat.reduceBNe, Int.reduceToNat, Int.reduceLT, Int.reduceLE, Int.reduceNeg, reduceCtorEq, Int.reduceEq, Int.reduceNe, f1, f2, f3, Int.natCast_nonneg, Int.toNat_natCast, List.getElem?_map, g2, g3]
          refine ⟨by kernel_rfl, ?_⟩
          refine AtCode.draw 30 [([], []), ([], []), ([0, 1], []), ([0, 1, 2], []), ([], []), ([0, 1, 2, 3, 4], []), ([0, 1, 2, 3, 4, 5], []), ([0, 1, 2, 3, 4, 5, 6], []), ([0, 1, 2, 3, 4, 5, 6, 7], []), ([0, 1, 2, 3, 4, 5, 6], []), ([0, 1, 2, 3, 4, 5, 6, 9], []), ([0, 1, 2, 3, 4, 5, 6, 7, 8, 9, 10], []), ([0, 1, 2, 3, 4, 5, 6, 7, 8, 9, 10, 11], []), ([0, 1, 2, 3, 4, 5, 6], []), ([0, 1, 2, 3, 4, 5, 6, 7, 8, 9, 10, 11, 12, 13], []), ([0, 1, 2, 3, 4, 5, 6, 7, 8, 9, 10, 11, 12, 13, 14], []), ([0, 1, 2, 3, 4, 5, 6, 7, 8, 9, 10, 11, 12, 13, 14, 15], []), ([0, 1, 2, 3, 4, 5, 6, 7, 8, 9, 10, 11, 12, 13, 14, 15, 16], []), ([0, 1, 2, 3, 4, 5, 6, 7, 8, 9, 10, 11, 12, 13, 14, 15, 16], []), ([0, 1, 2, 3, 4, 5, 6, 7, 8, 9, 10, 11, 12, 13, 14, 15, 16], []), ([0, 1, 2, 3, 4, 5, 6, 7, 8, 9, 10, 11, 12, 13, 14, 15, 16, 17, 18, 19], []), ([0, 1, 2, 3, 4, 5, 6, 7, 8, 9, 10, 11, 12, 13, 14, 15, 16, 17, 18, 19, 20], []), ([0, 1, 2, 3, 4, 5, 6, 7, 8, 9, 10, 11, 12, 13, 14, 15, 16, 17, 18, 19, 20, 21], []), ([0, 1, 2, 3, 4, 5, 6, 7, 8, 9, 10, 11, 12, 13, 14, 15, 16, 17, 18, 19, 20, 21, 22], []), ([0, 1, 2, 3, 4, 5, 6, 7, 8, 9, 10, 11, 12, 13, 14, 15, 16, 17, 18, 19, 20, 21, 22, 23], []), ([0, 1, 2, 3, 4, 5, 6, 7, 8, 9, 10, 11, 12, 13, 14, 15, 16, 17, 18, 19, 20, 21, 22, 23], []), ([0, 1, 2, 3, 4, 5, 6, 7, 8, 9, 10, 11, 12, 13, 14, 15, 16, 17, 18, 19, 20, 21, 22, 23], []), ([0, 1, 2, 3, 4, 5, 6, 7, 8, 9, 10, 11, 12, 13, 14, 15, 16, 17, 18, 19, 20, 21, 22, 23, 24, 25, 26], []), ([0, 1, 2, 3, 4, 5, 6, 7, 8, 9, 10, 11, 12, 13, 14, 15, 16, 17, 18, 19, 20, 21, 22, 23, 24, 25, 26, 27], []), ([0, 1, 2, 3, 4, 5, 6, 7, 8, 9, 10, 11, 12, 13, 14, 15, 16, 17, 18, 19, 20, 21, 22, 23, 24, 25, 26, 27, 28], [])] (by kernel_rfl) ?_
          simp -dsimp -implicitDefEqProofs (maxSteps := 1000000) only [go_sem, ↓reduceIte, Nat.reduceAdd, Nat.reduceSub, Nat.reduceMul, Nat.reduceLT, Nat.reduceLeDiff, Nat.reduceEqDiff, Nat.reduceBEq, Nat.reduceBNe, Int.reduceToNat, Int.reduceLT, Int.reduceLE, Int.reduceNeg, reduceCtorEq, Int.reduceEq, Int.reduceNe, f1, Int.natCast_nonneg, Int.toNat_natCast, List.getElem?_map, g1, hr9]
          refine QFn.use _ d1 (by simp -dsimp -implicitDefEqProofs (maxSteps := 1000000) only [go_sem, ↓reduceIte, Nat.reduceAdd, Nat.reduceSub, Nat.reduceMul, Nat.reduceLT, Nat.reduceLeDiff, Nat.reduceEqDiff, Nat.reduceBEq, Nat.reduceBNe, Int.reduceToNat, Int.reduceLT, Int.reduceLE, Int.reduceNeg, reduceCtorEq, Int.reduceEq, Int.reduceNe]) ?_
          simp -dsimp -implicitDefEqProofs (maxSteps := 1000000) only [go_sem, ↓reduceIte, Nat.reduceAdd, Nat.reduceSub, Nat.reduceMul, Nat.reduceLT, Nat.reduceLeDiff, Nat.reduceEqDiff, Nat.reduceBEq, Nat.reduceBNe, Int.reduceToNat, Int.reduceLT, Int.reduceLE, Int.reduceNeg, reduceCtorEq, Int.reduceEq, Int.reduceNe]
          refine QFn.use _ d2 (by simp -dsimp -implicitDefEqProofs (maxSteps := 1000000) only [go_sem, ↓reduceIte, Nat.reduceAdd, Nat.reduceSub, Nat.reduceMul, Nat.reduceLT, Nat.reduceLeDiff, Nat.reduceEqDiff, Nat.reduceBEq, Nat.reduceBNe, Int.reduceToNat, Int.reduceLT, Int.reduceLE, Int.reduceNeg, reduceCtorEq, Int.reduceEq, Int.reduceNe]) ?_
          simp -dsimp -implicitDefEqProofs (maxSteps := 1000000) only [go_sem, ↓reduceIte, Nat.reduceAdd, Nat.reduceSub, Nat.reduceMul, Nat.reduceLT, Nat.reduceLeDiff, Nat.reduceEqDiff, Nat.reduceBEq, Nat.reduceBNe, Int.reduceToNat, Int.reduceLT, Int.reduceLE, Int.reduceNeg, reduceCtorEq, Int.reduceEq, Int.reduceNe]
          refine ⟨⟨k + 1, by omega⟩, by show q - (k + 1) < q - k; omega, Le.tl (Ls := []) (y := none) [] (by simp -dsimp -implicitDefEqProofs (maxSteps := 1000000) only [go_sem, ↓reduceIte, Nat.reduceAdd, Nat.reduceSub, Nat.reduceMul, Nat.reduceLT, Nat.reduceLeDiff, Nat.reduceEqDiff, Nat.reduceBEq, Nat.reduceBNe, Int.reduceToNat, Int.reduceLT, Int.reduceLE, Int.reduceNeg, reduceCtorEq, Int.reduceEq, Int.reduceNe, e1]) ?_ (by simp) (by simp [sg]) trivial⟩
          simp -dsimp -implicitDefEqProofs (maxSteps := 1000000) only [go_sem, ↓reduceIte, Nat.reduceAdd, Nat.reduceSub, Nat.reduceMul, Nat.reduceLT, Nat.reduceLeDiff, Nat.reduceEqDiff, Nat.reduceBEq, Nat.reduceBNe, Int.reduceToNat, Int.reduceLT, Int.reduceLE, Int.reduceNeg, reduceCtorEq, Int.reduceEq, Int.reduceNe]
          exact renL_cl rfl (by simp -dsimp -implicitDefEqProofs (maxSteps := 1000000) only [go_sem, ↓reduceIte, Nat.reduceAdd, Nat.reduceSub, Nat.reduceMul, Nat.reduceLT, Nat.reduceLeDiff, Nat.reduceEqDiff, Nat.reduceBEq, Nat.reduceBNe, Int.reduceToNat, Int.reduceLT, Int.reduceLE, Int.reduceNeg, reduceCtorEq, Int.reduceEq, Int.reduceNe])
        · refine AtFn.pure0 awake10 ?_
          simp -dsimp -implicitDefEqProofs (maxSteps := 1000000) only [go_sem, ↓reduceIte, Nat.reduceAdd, Nat.reduceSub, Nat.reduceMul, Nat.reduceLT, Nat.reduceLeDiff, Nat.reduceEqDiff, Nat.reduceBEq, Nat.reduceBNe, Int.reduceToNat, Int.reduceLT, Int.reduceLE, Int.reduceNeg, reduceCtorEq, Int.reduceEq, Int.reduceNe]
    · subst hq0
      cases c with
      | true => exact absurd hsg (by simp; omega)
      | false =>
        have hqc : 0 = i - 1 := hsg
        have hlc : pts.length = 1 := hlen
        have w1' : wr (((at'.length : Nat) : Int) - 1) = 0 := by rw [wr_in] <;> omega
        refine AtFn.pure0 hch ?_
        simp -dsimp -implicitDefEqProofs (maxSteps := 1000000) only [go_sem, ↓reduceIte, Nat.reduceAdd, Nat.reduceSub, Nat.reduceMul, Nat.reduceLT, Nat.reduceLeDiff, Nat.reduceEqDiff, Nat.reduceBEq, Nat.reduceBNe, Int.reduceToNat, Int.reduceLT, Int.reduceLE, Int.reduceNeg, reduceCtorEq, Int.reduceEq, Int.reduceNe]
        refine AtFn.pure0 han ?_
        simp -dsimp -implicitDefEqProofs (maxSteps := 1000000) only [go_sem, ↓reduceIte, Nat.reduceAdd, Nat.reduceSub, Nat.reduceMul, Nat.reduceLT, Nat.reduceLeDiff, Nat.reduceEqDiff, Nat.reduceBEq, Nat.reduceBNe, Int.reduceToNat, Int.reduceLT, Int.reduceLE, Int.reduceNeg, reduceCtorEq, Int.reduceEq, Int.reduceNe, w1', List.length_map, hlc, true_implies, show wr (3 * 0) = 0 by decide, show wr (0 + 1) = 1 by decide]
        refine ⟨Unit, fun _ => ⟨177, tl [(15, I 0), (16, I 0)], [], 0, .nil⟩, fun _ => 0, ⟨(), Le.tl (Ls := []) (y := none) [] (by simp -dsimp -implicitDefEqProofs (maxSteps := 1000000) only [go_sem, ↓reduceIte, Nat.reduceAdd, Nat.reduceSub, Nat.reduceMul, Nat.reduceLT, Nat.reduceLeDiff, Nat.reduceEqDiff, Nat.reduceBEq, Nat.reduceBNe, Int.reduceToNat, Int.reduceLT, Int.reduceLE, Int.reduceNeg, reduceCtorEq, Int.reduceEq, Int.reduceNe]) (by simp) (by simp) (by simp) trivial⟩, fun _ => ?_⟩
        simp -dsimp -implicitDefEqProofs (maxSteps := 1000000) only [go_sem, ↓reduceIte, Nat.reduceAdd, Nat.reduceSub, Nat.reduceMul, Nat.reduceLT, Nat.reduceLeDiff, Nat.reduceEqDiff, Nat.reduceBEq, Nat.reduceBNe, Int.reduceToNat, Int.reduceLT, Int.reduceLE, Int.reduceNeg, reduceCtorEq, Int.reduceEq, Int.reduceNe, show ¬ (0 : Int) < 0 by decide]
        refine AtFn.pure0 awake10 ?_
        simp -dsimp -implicitDefEqProofs (maxSteps := 1000000) only [go_sem, ↓reduceIte, Nat.reduceAdd, Nat.reduceSub, Nat.reduceMul, Nat.reduceLT, Nat.reduceLeDiff, Nat.reduceEqDiff, Nat.reduceBEq, Nat.reduceBNe, Int.reduceToNat, Int.reduceLT, Int.reduceLE, Int.reduceNeg, reduceCtorEq, Int.reduceEq, Int.reduceNe]
theorem u16_wf {n : Int} (h : (Lit.int .u16 n).wf = true) : 0 ≤ n ∧ n ≤ 65535 := by
  simp [Lit.wf, IntKind.min, IntKind.max] at h
  first | exact h | (simp [IntKind.signed, IntKind.bits] at h; omega)
end

end Go.Proofs.Ytckbchkkjnahlaa
