/- What functions of the given program answer, part 3. Conditions: each theorem speaks for itself. -/
import Derived.Test.YtfmlhmfbhcfnpaaDoorBTy
import Derived.Test.YtfmlhmfbhcfnpaaDoorBF1
import Derived.Test.YtfmlhmfbhcfnpaaDoorBF2
set_option linter.unusedSimpArgs false
set_option linter.unusedVariables false
namespace Go.Proofs.YtfmlhmfbhcfnpaaDoor
open Go Go.Eng Go.RowKit
attribute [local go_sem ↓] qE_move qE_assign qE_pick qE_load qE_fieldAddr qE_indexAddr qE_extract qE_binOp qE_not qE_convert qE_makeFunc qE_build qE_len qE_max2 qE_min2 qE_usd qE_nilCheck qE_slice vc_end vc_skip vc_scope vc_ret vc_seq vc_cond vc_block vc_exit vc_region vc_draw vc_rangeFunc vc_loop vc_blk vc_lp vc_o_nil vc_o vc_o_guard onK_eq oK_move oK_assign oK_pick oK_load oK_fieldAddr oK_indexAddr oK_index oK_extract oK_binOp oK_unOp oK_convert oK_makeFunc oK_nilCheck oK_slice oK_build oK_len oK_max oK_ustr oK_min onN_eq oK_box oK_alloc oK_buildSlice oK_makeSlice onH_eq oK_store onA_eq oK_append oK_call oK_range oK_next bV_add bV_sub bV_mul bV_quo bV_rem bV_and bV_or bV_shl bV_shr bV_eql bV_neq bV_lss bV_leq bV_gtr bV_geq bV_add_s bV_eql_s bV_neq_s vcQ_nil vcQ_cons Q_move Q_assign Q_load Q_fieldAddr Q_indexAddr Q_index Q_binOp Q_nilCheck Q_slice Q_build Q_len Q_usd Q_min Q_call qE_index tailB_nil tailB_true onS_eq tailB_store onQ_eq loadE indexE
attribute [local go_sem] force_eq optK_some optE_some optE_none vK_v bK_v tK_t fnK_fn fyK_fn fyK_y nK_ptr pK_ptr pK_rp brK_true brK_false brK_not evA_tmp evA_const evA_func putA_some putA_none pushA_eq slots_zero tl_nil tl_cons find_cons find_nil setN_cons setN_nil dropN_nil dropN_cons loE_none loE_some hiE_none hiE_some slE_sl slE_ro slE_str bE_pp bE_p0 bE_00 bE_i bE_s bE_eql bE_neq intsA_nil intsA_cons slK_sl ptrV_eql ptrV_neq gdK_b popTo_blk popTo_c popTo_lp nilE_tmp nilE_int nilE_str nilE_ptr nilE_nil srcE_ro srcE_sl srcE_str dstE_sl dstE_nil apK_E fin_eq res_nil res_tmp res_cell tup1 tup0 optA_some frz_v frz_ro frz_rp frz_g frz_fn frz_ptr frz_sl optL_some nm_v nm_ro nm_rp nm_g nm_fn nm_ptr nm_sl cells_v cells_g cells_ro cells_ptr cells_sl one_int one_string one_slice oneA_v oneA_ro oneA_ptr oneA_sl ofV_int ofV_bool ofV_string ofV_slice ofV_nilFunc ofV_pointer len_ro len_sl asI_int fill_nil fill_cons chunks_nil chunks_cons DrawK_eq idR_eq sg_nil sg_cons ren_v ren_nil ren_ptr ren_sl ren_ro ren_rp iK_ro iK_sl ixE_s RfEnd_eq RfQ_eq RfBody_eq takeA_00 takeA_s updL_cons updL_nil nil_eq maskE_eq i_InlQ i_tup2 i_RenF_nil i_RenF_cons i_cut_nil i_cut_cons wrap_wr brK_dec maskH_eq upd_get slots_succ Cl_v Cl_ro Cl_rp Cl_fn Cl_g Cl_t g_put0 g_put1 u_nil u_tmp u_cell u_fin Bool.false_eq_true decide_true decide_false beq_self_eq_true true_and and_true ne_eq not_true not_false_eq_true List.elem_cons List.elem_nil List.contains_cons List.contains_nil List.getD_cons_zero List.getD_cons_succ Int.cast_ofNat_Int Bool.or_true Bool.true_or Bool.or_false Bool.false_or if_true if_false List.toList_toArray List.map_cons List.map_nil List.cons_append List.nil_append List.append_nil List.flatMap_cons List.flatMap_nil List.getElem?_cons_zero List.getElem?_cons_succ List.length_cons List.length_nil List.drop_succ_cons List.drop_zero List.take_succ_cons List.take_zero List.all_cons List.all_nil List.set_cons_zero List.set_cons_succ Option.bind_some Option.bind_none Option.map_some Option.map_none List.headD_cons List.tail_cons List.getElem?_toArray beq_true beq_false Bool.not_true Bool.not_false Bool.true_and Bool.and_true Bool.false_and Bool.and_false newCh Option.some.injEq exists_eq_left' sg_nil sg_cons List.mem_cons List.not_mem_nil forall_eq_or_imp forall_eq false_implies implies_true or_false false_or false_and and_false or_true true_or exists_false Option.isSome_some Option.isSome_none List.range_zero
attribute [local go_sem] T.sz3 T.ag3 T.ik3 T.us3 T.sz5 T.by5 T.ag5 T.ik5 T.us5 T.ze5 T.sz9 T.by9 T.ag9 T.sl9 T.ar9 T.pt9 T.ik9 T.st9 T.ze9 T.us21 T.sz23 T.by23 T.ag23 T.sl23 T.ar23 T.pt23 T.ik23 T.us23 T.ux23 T.ze23 T.sz25 T.ag25 T.sf25 T.ze25 T.fl25_0 T.fl25_1 T.fl25_2 T.bu25 T.sz26 T.ag26 T.sf26 T.ze26 T.sz34 T.ag34 T.sl34 T.ar34 T.sf34 T.ze34 T.bu34 T.sz37 T.ag37 T.sl37 T.ar37 T.sf37 T.sl40 T.ik40 T.us40 T.ux40 T.sz50 T.by50 T.ag50 T.sl50 T.ar50 T.sf50 T.ze50 T.bu50 T.sl68 T.ar68 T.pt68 T.sz80 T.ag80 T.ik80 T.sf82 T.ze82 T.fl82_0 T.fl82_1 T.sz83 T.ag83 T.sl83 T.ik83 T.us83 T.ux83 T.sl91 T.ik117 -- NOREP
section
set_option maxRecDepth 20000
attribute [local go_sem] clPxT
def linesP (S : List UInt8) : List (List UInt8) := (splitA S).dropLast.reverse
def parseP (S : List UInt8) : Ra × Int :=
  if 131328 < (S.length : Int) then (raZ, 30) else
    match goLines (linesP S) 0 [] with
    | none => (raZ, 30)
    | some (w, p) => if (textP ⟨w, (linesP S).length, p⟩).2 = 0 ∧ (textP ⟨w, (linesP S).length, p⟩).1 = S then (⟨w, (linesP S).length, p⟩, 0) else (raZ, 30)
/-- A state that is none. -/
theorem Le.bot {n k : Nat} {t : Nat → AV} {h : List (Nat × Blk)} {x : Aux} {s' : AState} (ht : t 100 = .ptr 999 0 0) (hk : k ≤ 999) : Le ⟨n, t, h, k, x⟩ s' := by
  rintro C a w ⟨β, hs⟩
  have h1 := hs.tm 100
  simp only [ht] at h1
  generalize a.tmps.getD 100 undef = v at h1
  cases h1 with
  | ptr hb =>
    have h2 := hs.βlt _ _ hb
    simp only at h2
    omega
theorem Le.botS {n n' k : Nat} {t f : Nat → AV} {h : List (Nat × Blk)} {sv : List (Nat → AV)} {y : Option Yl} {s' : AState} (ht : f 100 = .ptr 999 0 0) (hk : k ≤ 999) : Le (Eng.hid n' ⟨n, t, h, k, ⟨f :: sv, y⟩⟩) s' := by
  rintro C a w ⟨β, hs⟩
  have hl := hs.sv.1
  have hlt : 0 < C.sv.length := by rw [← hl]; simp [Eng.hid]
  have h1 := hs.sv.2 0 f _ rfl (List.getElem?_eq_getElem hlt) 100
  rw [ht] at h1
  generalize C.sv[0] 100 = v at h1
  cases h1 with
  | ptr hb =>
    have h2 := hs.βlt _ _ hb
    simp only [Eng.hid] at h2
    omega
theorem splitA_le : ∀ (l : List UInt8), ∀ c ∈ splitA l, c.length ≤ l.length
  | [], c, h => by simp [splitA] at h; subst h; simp
  | b :: l, c, h => by
    have ih := splitA_le l
    unfold splitA at h
    split at h
    · rcases List.mem_cons.1 h with rfl | h
      · simp
      · have := ih c h; simp; omega
    · split at h
      · rw [List.mem_singleton.1 h]; simp
      · rename_i p ps e
        rcases List.mem_cons.1 h with rfl | h
        · have := ih p (e ▸ List.mem_cons_self ..); simp; omega
        · have := ih c (e ▸ List.mem_cons_of_mem _ h); simp; omega
theorem trimN_le (l : List UInt8) : (trimN l).length ≤ l.length := by
  unfold trimN
  split
  · rw [List.length_dropLast]; omega
  · exact Nat.le_refl _
theorem chunk2_len {α : Type} {l c : List α} (h : c ∈ chunkL 2 l) : c.length = 1 ∨ c.length = 2 := by
  unfold chunkL at h
  obtain ⟨i, hi, rfl⟩ := List.mem_map.1 h
  have := (chunk_lt (n := 2) (q := i) (L := l.length) (by omega)).2 (List.mem_range.1 hi)
  rw [List.length_take, List.length_drop]
  omega
theorem goPairs_bad : ∀ (cs : List (List UInt8)) (p : List Int), (∃ c ∈ cs, (inkP c).2 = false) → goPairs cs p = none
  | [], _, h => by obtain ⟨c, hc, _⟩ := h; simp at hc
  | c :: cs, p, h => by
    unfold goPairs
    split
    · rename_i hc
      refine goPairs_bad cs _ ?_
      obtain ⟨d, hd, hd2⟩ := h
      rcases List.mem_cons.1 hd with rfl | hd
      · rw [hc] at hd2; cases hd2
      · exact ⟨d, hd, hd2⟩
    · rfl
theorem goPairs_good : ∀ (cs : List (List UInt8)) (p : List Int), (∀ c ∈ cs, (inkP c).2 = true) → goPairs cs p = some (p ++ cs.map fun c => (inkP c).1)
  | [], p, _ => by simp [goPairs]
  | c :: cs, p, h => by
    unfold goPairs
    rw [if_pos (h c (List.mem_cons_self ..)), goPairs_good cs _ (fun d hd => h d (List.mem_cons_of_mem _ hd))]
    simp
abbrev toI (l : List UInt8) : List Int := l.map fun b => (b.toNat : Int)
theorem byC_px (l : List UInt8) : byC l = pxC (toI l) := by simp [byC, pxC, toI]
theorem ofI_toI (l : List UInt8) : ((toI l).map fun n => UInt8.ofNat n.toNat) = l := by
  unfold toI
  rw [List.map_map]
  conv => rhs; rw [← List.map_id l]
  exact List.map_congr_left fun b _ => by simp
theorem rev0 : PFun Tryd.prog 55 [.ro 1 []] (.t []) := by
  have w0 : wr (0 - 1) = -1 := by decide
  refine PFun.intro 400 mixed Tryd.func55 (by kernel_rfl) rfl (by first | exact .v _ | (simp [Cl_v, Cl_t, Cl_g, Cl_fn, Cl_rp, Cl_ro]; done) | (simp [Cl_v, Cl_t, Cl_g, Cl_fn, Cl_rp, Cl_ro, or_imp, forall_and]; done) | (split <;> simp [Cl_v, Cl_t, Cl_g, Cl_fn, Cl_rp, Cl_ro])) (Nat.le_of_ble_eq_true rfl) ?_; rw [Tryd.ntmps55, Tryd.results55]
  simp -dsimp -implicitDefEqProofs (maxSteps := 1000000) only [go_sem, ↓reduceIte, Nat.reduceAdd, Nat.reduceSub, Nat.reduceMul, Nat.reduceLT, Nat.reduceLeDiff, Nat.reduceEqDiff, Nat.reduceBEq, Nat.reduceBNe, Int.reduceToNat, Int.reduceLT, Int.reduceLE, Int.reduceNeg, reduceCtorEq, Int.reduceEq, Int.reduceNe, w0]
  refine ⟨Unit, fun _ => ⟨28, tl [(2, I 0), (3, I (-1))], [], 0, .nil⟩, fun _ => 0, ⟨(), Le.tl (Ls := []) (y := none) [] (by simp -dsimp -implicitDefEqProofs (maxSteps := 1000000) only [go_sem, ↓reduceIte, Nat.reduceAdd, Nat.reduceSub, Nat.reduceMul, Nat.reduceLT, Nat.reduceLeDiff, Nat.reduceEqDiff, Nat.reduceBEq, Nat.reduceBNe, Int.reduceToNat, Int.reduceLT, Int.reduceLE, Int.reduceNeg, reduceCtorEq, Int.reduceEq, Int.reduceNe]) (by simp) (by simp) (by simp) trivial⟩, fun _ => ?_⟩
  simp -dsimp -implicitDefEqProofs (maxSteps := 1000000) only [go_sem, ↓reduceIte, Nat.reduceAdd, Nat.reduceSub, Nat.reduceMul, Nat.reduceLT, Nat.reduceLeDiff, Nat.reduceEqDiff, Nat.reduceBEq, Nat.reduceBNe, Int.reduceToNat, Int.reduceLT, Int.reduceLE, Int.reduceNeg, reduceCtorEq, Int.reduceEq, Int.reduceNe]
/-- A call of a pure function that reads own blocks, and whose answer is a few plain values: the blocks stay. -/
theorem AtFn.keepT {P : Program} {rec : List It → (AState → Prop) → AState → Prop} {o : Oper} {f : FuncId} {as' al : List AV} {k : List It} {Q : AState → Prop} {s : AState} (us : List Value)
    (hfun : PFun P f as' (.t (us.map .v))) (hk : force (al.map (frzA (find s.h) 3)) fun y => y = as' ∧ (∀ a ∈ as', Cl a) ∧ force (putA s o.dst (.t (us.map .v))) fun s' => rec k Q s') : AtFn P rec o f al k Q s := by
  obtain ⟨h1, h2, h3⟩ := hk
  refine AtFn.keep' h1 rfl hfun (fun X X' w u h => ?_) h2 h3
  cases h with
  | t hl hR =>
    refine .t hl fun k s u hk hu => ?_
    have := hR k s u hk hu
    simp only [List.getElem?_map, Option.map_eq_some_iff] at hk
    obtain ⟨v, _, rfl⟩ := hk
    cases this
    exact .v _
theorem parse14 (S : List UInt8) (hS : S.length ≤ 1073741824) : PFun Tryd.prog 14 [Str S] (RE (parseP S)) := by
  unfold parseP
  by_cases hbig : 131328 < (S.length : Int)
  · rw [if_pos hbig]
    refine PFun.res ?_ (subO 30)
    refine PFun.intro 400 mixed Tryd.func14 (by kernel_rfl) rfl (by first | exact .v _ | (simp [Cl_v, Cl_t, Cl_g, Cl_fn, Cl_rp, Cl_ro]; done) | (simp [Cl_v, Cl_t, Cl_g, Cl_fn, Cl_rp, Cl_ro, or_imp, forall_and]; done) | (split <;> simp [Cl_v, Cl_t, Cl_g, Cl_fn, Cl_rp, Cl_ro])) (Nat.le_of_ble_eq_true rfl) ?_; rw [Tryd.ntmps14, Tryd.results14]
    simp -dsimp -implicitDefEqProofs (maxSteps := 1000000) only [go_sem, ↓reduceIte, Nat.reduceAdd, Nat.reduceSub, Nat.reduceMul, Nat.reduceLT, Nat.reduceLeDiff, Nat.reduceEqDiff, Nat.reduceBEq, Nat.reduceBNe, Int.reduceToNat, Int.reduceLT, Int.reduceLE, Int.reduceNeg, reduceCtorEq, Int.reduceEq, Int.reduceNe, size_str, hbig]
    refine AtFn.pure0 (none53 30) ?_
    simp -dsimp -implicitDefEqProofs (maxSteps := 1000000) only [go_sem, ↓reduceIte, Nat.reduceAdd, Nat.reduceSub, Nat.reduceMul, Nat.reduceLT, Nat.reduceLeDiff, Nat.reduceEqDiff, Nat.reduceBEq, Nat.reduceBNe, Int.reduceToNat, Int.reduceLT, Int.reduceLE, Int.reduceNeg, reduceCtorEq, Int.reduceEq, Int.reduceNe]
  rw [if_neg hbig]
  have h54 := split54 S hS
  have hnl : (splitA S).length ≤ S.length + 1 := by rw [splitA_len]; have := List.count_le_length (a := (10 : UInt8)) (l := S); omega
  have hn1 : 1 ≤ (splitA S).length := List.length_pos_iff.2 (splitA_ne S)
  have e1 := wrS1 hn1 (by omega)
  by_cases hL : linesP S = []
  · have : (splitA S).length = 1 := by
      have := congrArg List.length hL
      unfold linesP at this
      rw [List.length_reverse, List.length_dropLast, List.length_nil] at this
      omega
    have hp : (match goLines (linesP S) 0 [] with | none => (raZ, (30 : Int)) | some (w, p) => if (textP ⟨w, (linesP S).length, p⟩).2 = 0 ∧ (textP ⟨w, (linesP S).length, p⟩).1 = S then (⟨w, (linesP S).length, p⟩, 0) else (raZ, 30)) = (raZ, 30) := by
      rw [hL]
      rfl
    rw [hp]
    refine PFun.res ?_ (subO 30)
    refine PFun.introM 400 mixed Tryd.func14 (by kernel_rfl) rfl (by first | exact .v _ | (simp [Cl_v, Cl_t, Cl_g, Cl_fn, Cl_rp, Cl_ro]; done) | (simp [Cl_v, Cl_t, Cl_g, Cl_fn, Cl_rp, Cl_ro, or_imp, forall_and]; done) | (split <;> simp [Cl_v, Cl_t, Cl_g, Cl_fn, Cl_rp, Cl_ro])) (Nat.le_of_ble_eq_true rfl) ?_; rw [Tryd.ntmps14, Tryd.results14]
    simp -dsimp -implicitDefEqProofs (maxSteps := 1000000) only [go_sem, ↓reduceIte, Nat.reduceAdd, Nat.reduceSub, Nat.reduceMul, Nat.reduceLT, Nat.reduceLeDiff, Nat.reduceEqDiff, Nat.reduceBEq, Nat.reduceBNe, Int.reduceToNat, Int.reduceLT, Int.reduceLE, Int.reduceNeg, reduceCtorEq, Int.reduceEq, Int.reduceNe, size_str, hbig]
    refine AtFn.new h54 ?_
    have w0 : wr (1 - 1) = 0 := by decide
    simp -dsimp -implicitDefEqProofs (maxSteps := 1000000) only [go_sem, ↓reduceIte, Nat.reduceAdd, Nat.reduceSub, Nat.reduceMul, Nat.reduceLT, Nat.reduceLeDiff, Nat.reduceEqDiff, Nat.reduceBEq, Nat.reduceBNe, Int.reduceToNat, Int.reduceLT, Int.reduceLE, Int.reduceNeg, reduceCtorEq, Int.reduceEq, Int.reduceNe, List.length_map, e1, this, w0, Nat.zero_le]
    refine AtFn.keepT [] rev0 ?_
    simp -dsimp -implicitDefEqProofs (maxSteps := 1000000) only [go_sem, ↓reduceIte, Nat.reduceAdd, Nat.reduceSub, Nat.reduceMul, Nat.reduceLT, Nat.reduceLeDiff, Nat.reduceEqDiff, Nat.reduceBEq, Nat.reduceBNe, Int.reduceToNat, Int.reduceLT, Int.reduceLE, Int.reduceNeg, reduceCtorEq, Int.reduceEq, Int.reduceNe, List.length_map, this, Nat.zero_le, List.length_nil]
    refine ⟨Unit, fun _ => ⟨83, tl [(0, Str S), (2, .ptr 0 0 0), (3, .ptr 1 0 0), (5, .ptr 3 0 0), (32, I 0), (33, I 0)], [(3, ⟨3, [[I 0, I 0, .v (.slice none 0 0)]]⟩), (1, ⟨1, [[I 0]]⟩), (0, ⟨3, [[I 0, I 0, .v (.slice none 0 0)]]⟩)], 4, ⟨[], some (.mp none)⟩⟩, fun _ => 0,
      ⟨(), Le.tl (Ls := []) [] (by simp -dsimp -implicitDefEqProofs (maxSteps := 1000000) only [go_sem, ↓reduceIte, Nat.reduceAdd, Nat.reduceSub, Nat.reduceMul, Nat.reduceLT, Nat.reduceLeDiff, Nat.reduceEqDiff, Nat.reduceBEq, Nat.reduceBNe, Int.reduceToNat, Int.reduceLT, Int.reduceLE, Int.reduceNeg, reduceCtorEq, Int.reduceEq, Int.reduceNe]) ?_ (by simp) (by simp [sg]) trivial⟩, fun _ => ?_⟩
    · simp -dsimp -implicitDefEqProofs (maxSteps := 1000000) only [go_sem, ↓reduceIte, Nat.reduceAdd, Nat.reduceSub, Nat.reduceMul, Nat.reduceLT, Nat.reduceLeDiff, Nat.reduceEqDiff, Nat.reduceBEq, Nat.reduceBNe, Int.reduceToNat, Int.reduceLT, Int.reduceLE, Int.reduceNeg, reduceCtorEq, Int.reduceEq, Int.reduceNe]
      exact ⟨renL_F (by simp -dsimp -implicitDefEqProofs (maxSteps := 1000000) only [go_sem, ↓reduceIte, Nat.reduceAdd, Nat.reduceSub, Nat.reduceMul, Nat.reduceLT, Nat.reduceLeDiff, Nat.reduceEqDiff, Nat.reduceBEq, Nat.reduceBNe, Int.reduceToNat, Int.reduceLT, Int.reduceLE, Int.reduceNeg, reduceCtorEq, Int.reduceEq, Int.reduceNe]), renL_F (by simp -dsimp -implicitDefEqProofs (maxSteps := 1000000) only [go_sem, ↓reduceIte, Nat.reduceAdd, Nat.reduceSub, Nat.reduceMul, Nat.reduceLT, Nat.reduceLeDiff, Nat.reduceEqDiff, Nat.reduceBEq, Nat.reduceBNe, Int.reduceToNat, Int.reduceLT, Int.reduceLE, Int.reduceNeg, reduceCtorEq, Int.reduceEq, Int.reduceNe]), renL_F (by simp -dsimp -implicitDefEqProofs (maxSteps := 1000000) only [go_sem, ↓reduceIte, Nat.reduceAdd, Nat.reduceSub, Nat.reduceMul, Nat.reduceLT, Nat.reduceLeDiff, Nat.reduceEqDiff, Nat.reduceBEq, Nat.reduceBNe, Int.reduceToNat, Int.reduceLT, Int.reduceLE, Int.reduceNeg, reduceCtorEq, Int.reduceEq, Int.reduceNe])⟩
    simp -dsimp -implicitDefEqProofs (maxSteps := 1000000) only [go_sem, ↓reduceIte, Nat.reduceAdd, Nat.reduceSub, Nat.reduceMul, Nat.reduceLT, Nat.reduceLeDiff, Nat.reduceEqDiff, Nat.reduceBEq, Nat.reduceBNe, Int.reduceToNat, Int.reduceLT, Int.reduceLE, Int.reduceNeg, reduceCtorEq, Int.reduceEq, Int.reduceNe]
    have ht := text17 raZ (by intro x hx; simp at hx)
    have ht2 : PFun Tryd.prog 17 [raO] (.t (List.map AV.v [.string ⟨[].toArray⟩, .int .i64 2])) := PFun.sub ht (.cons (Sub.g (.cons (.refl _) (.cons (.refl _) (.cons (Sub.nil 1) .nil)))) .nil)
    refine AtFn.keepT _ ht2 ?_
    simp -dsimp -implicitDefEqProofs (maxSteps := 1000000) only [go_sem, ↓reduceIte, Nat.reduceAdd, Nat.reduceSub, Nat.reduceMul, Nat.reduceLT, Nat.reduceLeDiff, Nat.reduceEqDiff, Nat.reduceBEq, Nat.reduceBNe, Int.reduceToNat, Int.reduceLT, Int.reduceLE, Int.reduceNeg, reduceCtorEq, Int.reduceEq, Int.reduceNe]
    refine AtFn.pure0 (none53 30) ?_
    simp -dsimp -implicitDefEqProofs (maxSteps := 1000000) only [go_sem, ↓reduceIte, Nat.reduceAdd, Nat.reduceSub, Nat.reduceMul, Nat.reduceLT, Nat.reduceLeDiff, Nat.reduceEqDiff, Nat.reduceBEq, Nat.reduceBNe, Int.reduceToNat, Int.reduceLT, Int.reduceLE, Int.reduceNeg, reduceCtorEq, Int.reduceEq, Int.reduceNe]
  have hl1 : (splitA S).length = (linesP S).length + 1 := by
    unfold linesP
    rw [List.length_reverse, List.length_dropLast]; omega
  have hlp : 1 ≤ (linesP S).length := List.length_pos_iff.2 hL
  have hll : (linesP S).length ≤ 131329 := by omega
  obtain ⟨M, hM⟩ : ∃ M : Ra × Int, M = (match goLines (linesP S) 0 [] with | none => (raZ, (30 : Int)) | some (w, p) => if (textP ⟨w, (linesP S).length, p⟩).2 = 0 ∧ (textP ⟨w, (linesP S).length, p⟩).1 = S then (⟨w, (linesP S).length, p⟩, 0) else (raZ, 30)) := ⟨_, rfl⟩
  rw [← hM]
  obtain ⟨RR, hclR, hE, hO, hfin⟩ : ∃ RR : AV, Cl RR ∧ (M = (raZ, 30) → RR = .t [raO, I 30]) ∧ (M ≠ (raZ, 30) → RR = RE M) ∧ Sub RR (RE M) := by
    by_cases hm : M = (raZ, 30)
    · exact ⟨.t [raO, I 30], by simp [Cl_t, Cl_g, Cl_v], fun _ => rfl, fun h => absurd hm h, by rw [hm]; exact subO 30⟩
    · exact ⟨RE M, clRE _, fun h => absurd h hm, fun _ => rfl, .refl _⟩
  refine PFun.res ?_ hfin
  refine PFun.introM 400 mixed Tryd.func14 (by kernel_rfl) rfl (hclR) (Nat.le_of_ble_eq_true rfl) ?_; rw [Tryd.ntmps14, Tryd.results14]
  simp -dsimp -implicitDefEqProofs (maxSteps := 1000000) only [go_sem, ↓reduceIte, Nat.reduceAdd, Nat.reduceSub, Nat.reduceMul, Nat.reduceLT, Nat.reduceLeDiff, Nat.reduceEqDiff, Nat.reduceBEq, Nat.reduceBNe, Int.reduceToNat, Int.reduceLT, Int.reduceLE, Int.reduceNeg, reduceCtorEq, Int.reduceEq, Int.reduceNe, size_str, hbig]
  refine AtFn.new h54 ?_
  rw [hl1, Nat.add_sub_cancel] at e1
  have c1 : (linesP S).length ≤ (linesP S).length + 1 := by omega
  simp -dsimp -implicitDefEqProofs (maxSteps := 1000000) only [go_sem, ↓reduceIte, Nat.reduceAdd, Nat.reduceSub, Nat.reduceMul, Nat.reduceLT, Nat.reduceLeDiff, Nat.reduceEqDiff, Nat.reduceBEq, Nat.reduceBNe, Int.reduceToNat, Int.reduceLT, Int.reduceLE, Int.reduceNeg, reduceCtorEq, Int.reduceEq, Int.reduceNe, List.length_map, hl1, e1, Int.natCast_nonneg, Int.toNat_natCast, Nat.zero_le, c1]
  obtain ⟨D, hD⟩ : ∃ D, D = (splitA S).dropLast := ⟨_, rfl⟩
  have hLD : linesP S = D.reverse := by rw [hD]; rfl
  obtain ⟨L, hLL⟩ : ∃ L, L = linesP S := ⟨_, rfl⟩
  have hDl : D.length = L.length := by rw [hLL, hLD, List.length_reverse]
  have hD0 : D ≠ [] := by intro e; rw [e] at hDl; rw [← hLL] at hlp; simp at hDl; omega
  have hrv := reverse55 D hD0 (by rw [hDl, hLL]; omega)
  rw [← hLD, hDl] at hrv
  rw [← hLL] at hrv hlp hll hM ⊢
  have hcut : List.take L.length (List.map strC (splitA S)) = D.map strC := by
    rw [← List.map_take, hD, List.dropLast_eq_take, hl1, ← hLL, Nat.add_sub_cancel]
  refine AtFn.le ⟨83, tl [(0, Str S), (2, .ptr 1 0 0), (3, .ptr 2 0 0), (4, .sl 0 0 L.length), (26, .sl 0 0 L.length)], [(0, ⟨1, D.map strC⟩), (1, ⟨3, [[I 0, I 0, .v (.slice none 0 0)]]⟩), (2, ⟨1, [[I 0]]⟩)], 3, ⟨[], some (.mp none)⟩⟩ [.sl 0 0 L.length]
    ((Le.cut 2 L.length).trans (Le.tl (Ls := []) [(0, 2), (1, 0), (2, 1)] (by simp -dsimp -implicitDefEqProofs (maxSteps := 1000000) only [go_sem, ↓reduceIte, Nat.reduceAdd, Nat.reduceSub, Nat.reduceMul, Nat.reduceLT, Nat.reduceLeDiff, Nat.reduceEqDiff, Nat.reduceBEq, Nat.reduceBNe, Int.reduceToNat, Int.reduceLT, Int.reduceLE, Int.reduceNeg, reduceCtorEq, Int.reduceEq, Int.reduceNe, Nat.sub_zero]) ?_ (by simp) (by simp [sg]) trivial)) (by intro fo xs ts h; cases h; exact ⟨by simp -dsimp -implicitDefEqProofs (maxSteps := 1000000) only [go_sem, ↓reduceIte, Nat.reduceAdd, Nat.reduceSub, Nat.reduceMul, Nat.reduceLT, Nat.reduceLeDiff, Nat.reduceEqDiff, Nat.reduceBEq, Nat.reduceBNe, Int.reduceToNat, Int.reduceLT, Int.reduceLE, Int.reduceNeg, reduceCtorEq, Int.reduceEq, Int.reduceNe], by simp -dsimp -implicitDefEqProofs (maxSteps := 1000000) only [go_sem, ↓reduceIte, Nat.reduceAdd, Nat.reduceSub, Nat.reduceMul, Nat.reduceLT, Nat.reduceLeDiff, Nat.reduceEqDiff, Nat.reduceBEq, Nat.reduceBNe, Int.reduceToNat, Int.reduceLT, Int.reduceLE, Int.reduceNeg, reduceCtorEq, Int.reduceEq, Int.reduceNe]⟩) ?_
  · simp -dsimp -implicitDefEqProofs (maxSteps := 1000000) only [go_sem, ↓reduceIte, Nat.reduceAdd, Nat.reduceSub, Nat.reduceMul, Nat.reduceLT, Nat.reduceLeDiff, Nat.reduceEqDiff, Nat.reduceBEq, Nat.reduceBNe, Int.reduceToNat, Int.reduceLT, Int.reduceLE, Int.reduceNeg, reduceCtorEq, Int.reduceEq, Int.reduceNe, hcut]
    exact ⟨renL_cl2 rfl (clStr _), renL_F (by simp -dsimp -implicitDefEqProofs (maxSteps := 1000000) only [go_sem, ↓reduceIte, Nat.reduceAdd, Nat.reduceSub, Nat.reduceMul, Nat.reduceLT, Nat.reduceLeDiff, Nat.reduceEqDiff, Nat.reduceBEq, Nat.reduceBNe, Int.reduceToNat, Int.reduceLT, Int.reduceLE, Int.reduceNeg, reduceCtorEq, Int.reduceEq, Int.reduceNe]), renL_F (by simp -dsimp -implicitDefEqProofs (maxSteps := 1000000) only [go_sem, ↓reduceIte, Nat.reduceAdd, Nat.reduceSub, Nat.reduceMul, Nat.reduceLT, Nat.reduceLeDiff, Nat.reduceEqDiff, Nat.reduceBEq, Nat.reduceBNe, Int.reduceToNat, Int.reduceLT, Int.reduceLE, Int.reduceNeg, reduceCtorEq, Int.reduceEq, Int.reduceNe])⟩
  refine AtFn.m' (h0 := [(0, ⟨1, D.map strC⟩)]) (hr := [(1, ⟨3, [[I 0, I 0, .v (.slice none 0 0)]]⟩), (2, ⟨1, [[I 0]]⟩)]) (k' := 3) id hrv (MOk.id (Ls := []) (by simp) (by simp -dsimp -implicitDefEqProofs (maxSteps := 1000000) only [go_sem, ↓reduceIte, Nat.reduceAdd, Nat.reduceSub, Nat.reduceMul, Nat.reduceLT, Nat.reduceLeDiff, Nat.reduceEqDiff, Nat.reduceBEq, Nat.reduceBNe, Int.reduceToNat, Int.reduceLT, Int.reduceLE, Int.reduceNeg, reduceCtorEq, Int.reduceEq, Int.reduceNe, id_eq]) ?_ (by simp -dsimp -implicitDefEqProofs (maxSteps := 1000000) only [go_sem, ↓reduceIte, Nat.reduceAdd, Nat.reduceSub, Nat.reduceMul, Nat.reduceLT, Nat.reduceLeDiff, Nat.reduceEqDiff, Nat.reduceBEq, Nat.reduceBNe, Int.reduceToNat, Int.reduceLT, Int.reduceLE, Int.reduceNeg, reduceCtorEq, Int.reduceEq, Int.reduceNe, id_eq]) (by simp -dsimp -implicitDefEqProofs (maxSteps := 1000000) only [go_sem, ↓reduceIte, Nat.reduceAdd, Nat.reduceSub, Nat.reduceMul, Nat.reduceLT, Nat.reduceLeDiff, Nat.reduceEqDiff, Nat.reduceBEq, Nat.reduceBNe, Int.reduceToNat, Int.reduceLT, Int.reduceLE, Int.reduceNeg, reduceCtorEq, Int.reduceEq, Int.reduceNe, id_eq]) ?_ (by simp) ?_ (.cl (by simp [Cl_t])) (by simp) (by simp) (by simp)) ?_
  · simp -dsimp -implicitDefEqProofs (maxSteps := 1000000) only [go_sem, ↓reduceIte, Nat.reduceAdd, Nat.reduceSub, Nat.reduceMul, Nat.reduceLT, Nat.reduceLeDiff, Nat.reduceEqDiff, Nat.reduceBEq, Nat.reduceBNe, Int.reduceToNat, Int.reduceLT, Int.reduceLE, Int.reduceNeg, reduceCtorEq, Int.reduceEq, Int.reduceNe, id_eq]
    exact renL_cl2 rfl (clStr _)
  · simp -dsimp -implicitDefEqProofs (maxSteps := 1000000) only [go_sem, ↓reduceIte, Nat.reduceAdd, Nat.reduceSub, Nat.reduceMul, Nat.reduceLT, Nat.reduceLeDiff, Nat.reduceEqDiff, Nat.reduceBEq, Nat.reduceBNe, Int.reduceToNat, Int.reduceLT, Int.reduceLE, Int.reduceNeg, reduceCtorEq, Int.reduceEq, Int.reduceNe, id_eq]
    exact ⟨renL_F (by simp -dsimp -implicitDefEqProofs (maxSteps := 1000000) only [go_sem, ↓reduceIte, Nat.reduceAdd, Nat.reduceSub, Nat.reduceMul, Nat.reduceLT, Nat.reduceLeDiff, Nat.reduceEqDiff, Nat.reduceBEq, Nat.reduceBNe, Int.reduceToNat, Int.reduceLT, Int.reduceLE, Int.reduceNeg, reduceCtorEq, Int.reduceEq, Int.reduceNe]), renL_F (by simp -dsimp -implicitDefEqProofs (maxSteps := 1000000) only [go_sem, ↓reduceIte, Nat.reduceAdd, Nat.reduceSub, Nat.reduceMul, Nat.reduceLT, Nat.reduceLeDiff, Nat.reduceEqDiff, Nat.reduceBEq, Nat.reduceBNe, Int.reduceToNat, Int.reduceLT, Int.reduceLE, Int.reduceNeg, reduceCtorEq, Int.reduceEq, Int.reduceNe])⟩
  · simp -dsimp -implicitDefEqProofs (maxSteps := 1000000) only [go_sem, ↓reduceIte, Nat.reduceAdd, Nat.reduceSub, Nat.reduceMul, Nat.reduceLT, Nat.reduceLeDiff, Nat.reduceEqDiff, Nat.reduceBEq, Nat.reduceBNe, Int.reduceToNat, Int.reduceLT, Int.reduceLE, Int.reduceNeg, reduceCtorEq, Int.reduceEq, Int.reduceNe, id_eq]
    exact renL_cl2 rfl (clStr _)
  simp -dsimp -implicitDefEqProofs (maxSteps := 1000000) only [go_sem, ↓reduceIte, Nat.reduceAdd, Nat.reduceSub, Nat.reduceMul, Nat.reduceLT, Nat.reduceLeDiff, Nat.reduceEqDiff, Nat.reduceBEq, Nat.reduceBNe, Int.reduceToNat, Int.reduceLT, Int.reduceLE, Int.reduceNeg, reduceCtorEq, Int.reduceEq, Int.reduceNe]
  have hLle : ∀ l ∈ L, l.length ≤ 131328 := fun l hl => by
    rw [hLL, hLD] at hl
    have := splitA_le S l ((List.dropLast_sublist _).subset (hD ▸ List.mem_reverse.1 hl))
    omega
  obtain ⟨m, hm⟩ : ∃ m, m = L.length := ⟨_, rfl⟩
  rw [← hm] at hll hlp hM ⊢
  refine ⟨{q : Nat × Int × List Int // q.1 ≤ m ∧ goLines L 0 [] = goLines (L.drop q.1) q.2.1 q.2.2 ∧ q.2.2.length ≤ q.1 * 131328 ∧ okP q.2.2} ⊕ {u : Unit // M = (raZ, 30)},
    fun q => match q with
      | .inl q => ⟨83, tl [(0, Str S), (2, .ptr 1 0 0), (3, .ptr 2 0 0), (5, .ptr 3 0 0), (31, .sl 0 0 m), (32, I m), (33, I q.1.1)], [(3, ⟨3, [[I q.1.2.1, I m, .sl 4 0 q.1.2.2.length]]⟩), (0, ⟨1, L.map strC⟩), (1, ⟨3, [[I 0, I 0, .v (.slice none 0 0)]]⟩), (2, ⟨1, [[I 0]]⟩), (4, ⟨1, pxC q.1.2.2⟩)], 5, ⟨[], some (.mp none)⟩⟩
      | .inr _ => ⟨83, tl [(0, Str S), (2, .ptr 1 0 0), (3, .ptr 2 0 0), (5, .ptr 3 0 0), (32, I 0), (33, I 0)], [(3, ⟨3, [[I 0, I 0, .v (.slice none 0 0)]]⟩), (1, ⟨3, [[I 0, I 0, .v (.slice none 0 0)]]⟩), (2, ⟨1, [[I 0]]⟩)], 4, ⟨[], some (.mp none)⟩⟩,
    fun q => match q with | .inl q => m - q.1.1 + 1 | .inr _ => 0,
    ⟨.inl ⟨(0, 0, []), Nat.zero_le _, rfl, by simp, by intro x hx; simp at hx⟩, Le.tl0 (Ls := []) [] ?_ ?_ (by simp) (by simp [sg]) trivial⟩, fun q => ?_⟩
  · simp -dsimp -implicitDefEqProofs (maxSteps := 1000000) only [go_sem, ↓reduceIte, Nat.reduceAdd, Nat.reduceSub, Nat.reduceMul, Nat.reduceLT, Nat.reduceLeDiff, Nat.reduceEqDiff, Nat.reduceBEq, Nat.reduceBNe, Int.reduceToNat, Int.reduceLT, Int.reduceLE, Int.reduceNeg, reduceCtorEq, Int.reduceEq, Int.reduceNe]
  · simp -dsimp -implicitDefEqProofs (maxSteps := 1000000) only [go_sem, ↓reduceIte, Nat.reduceAdd, Nat.reduceSub, Nat.reduceMul, Nat.reduceLT, Nat.reduceLeDiff, Nat.reduceEqDiff, Nat.reduceBEq, Nat.reduceBNe, Int.reduceToNat, Int.reduceLT, Int.reduceLE, Int.reduceNeg, reduceCtorEq, Int.reduceEq, Int.reduceNe]
    exact ⟨renL_F (by simp -dsimp -implicitDefEqProofs (maxSteps := 1000000) only [go_sem, ↓reduceIte, Nat.reduceAdd, Nat.reduceSub, Nat.reduceMul, Nat.reduceLT, Nat.reduceLeDiff, Nat.reduceEqDiff, Nat.reduceBEq, Nat.reduceBNe, Int.reduceToNat, Int.reduceLT, Int.reduceLE, Int.reduceNeg, reduceCtorEq, Int.reduceEq, Int.reduceNe]), renL_cl2 rfl (clStr _), renL_F (by simp -dsimp -implicitDefEqProofs (maxSteps := 1000000) only [go_sem, ↓reduceIte, Nat.reduceAdd, Nat.reduceSub, Nat.reduceMul, Nat.reduceLT, Nat.reduceLeDiff, Nat.reduceEqDiff, Nat.reduceBEq, Nat.reduceBNe, Int.reduceToNat, Int.reduceLT, Int.reduceLE, Int.reduceNeg, reduceCtorEq, Int.reduceEq, Int.reduceNe]), renL_F (by simp -dsimp -implicitDefEqProofs (maxSteps := 1000000) only [go_sem, ↓reduceIte, Nat.reduceAdd, Nat.reduceSub, Nat.reduceMul, Nat.reduceLT, Nat.reduceLeDiff, Nat.reduceEqDiff, Nat.reduceBEq, Nat.reduceBNe, Int.reduceToNat, Int.reduceLT, Int.reduceLE, Int.reduceNeg, reduceCtorEq, Int.reduceEq, Int.reduceNe])⟩
  rcases q with ⟨⟨i, w, p⟩, hi, hgo, hpl, hokp⟩ | ⟨_, hMe⟩
  rotate_left
  · simp -dsimp -implicitDefEqProofs (maxSteps := 1000000) only [go_sem, ↓reduceIte, Nat.reduceAdd, Nat.reduceSub, Nat.reduceMul, Nat.reduceLT, Nat.reduceLeDiff, Nat.reduceEqDiff, Nat.reduceBEq, Nat.reduceBNe, Int.reduceToNat, Int.reduceLT, Int.reduceLE, Int.reduceNeg, reduceCtorEq, Int.reduceEq, Int.reduceNe]
    have ht := text17 raZ (by intro x hx; simp at hx)
    have ht2 : PFun Tryd.prog 17 [raO] (.t (List.map AV.v [.string ⟨[].toArray⟩, .int .i64 2])) := PFun.sub ht (.cons (Sub.g (.cons (.refl _) (.cons (.refl _) (.cons (Sub.nil 1) .nil)))) .nil)
    refine AtFn.keepT _ ht2 ?_
    simp -dsimp -implicitDefEqProofs (maxSteps := 1000000) only [go_sem, ↓reduceIte, Nat.reduceAdd, Nat.reduceSub, Nat.reduceMul, Nat.reduceLT, Nat.reduceLeDiff, Nat.reduceEqDiff, Nat.reduceBEq, Nat.reduceBNe, Int.reduceToNat, Int.reduceLT, Int.reduceLE, Int.reduceNeg, reduceCtorEq, Int.reduceEq, Int.reduceNe]
    refine AtFn.pure0 (none53 30) ?_
    simp -dsimp -implicitDefEqProofs (maxSteps := 1000000) only [go_sem, ↓reduceIte, Nat.reduceAdd, Nat.reduceSub, Nat.reduceMul, Nat.reduceLT, Nat.reduceLeDiff, Nat.reduceEqDiff, Nat.reduceBEq, Nat.reduceBNe, Int.reduceToNat, Int.reduceLT, Int.reduceLE, Int.reduceNeg, reduceCtorEq, Int.reduceEq, Int.reduceNe]
    rw [hE hMe]
  simp only at hi hgo hpl hokp
  simp -dsimp -implicitDefEqProofs (maxSteps := 1000000) only [go_sem, ↓reduceIte, Nat.reduceAdd, Nat.reduceSub, Nat.reduceMul, Nat.reduceLT, Nat.reduceLeDiff, Nat.reduceEqDiff, Nat.reduceBEq, Nat.reduceBNe, Int.reduceToNat, Int.reduceLT, Int.reduceLE, Int.reduceNeg, reduceCtorEq, Int.reduceEq, Int.reduceNe]
  refine ⟨fun hi' => ?_, fun hout => ?_⟩
  · have hil : i < m := by omega
    have ei := wrA1 (a := i) (by omega)
    obtain ⟨l, hl⟩ : ∃ l, L[i]? = some l := ⟨_, List.getElem?_eq_getElem (by omega)⟩
    have hll2 := hLle l (List.mem_of_getElem? hl)
    have htl := trimN_le l
    simp -dsimp -implicitDefEqProofs (maxSteps := 1000000) only [go_sem, ↓reduceIte, Nat.reduceAdd, Nat.reduceSub, Nat.reduceMul, Nat.reduceLT, Nat.reduceLeDiff, Nat.reduceEqDiff, Nat.reduceBEq, Nat.reduceBNe, Int.reduceToNat, Int.reduceLT, Int.reduceLE, Int.reduceNeg, reduceCtorEq, Int.reduceEq, Int.reduceNe, List.getElem?_map, hl, hi', Int.natCast_nonneg, Int.toNat_natCast, Nat.zero_add, List.length_map]
    refine AtFn.pure0 (trim57 l (by omega)) ?_
    simp -dsimp -implicitDefEqProofs (maxSteps := 1000000) only [go_sem, ↓reduceIte, Nat.reduceAdd, Nat.reduceSub, Nat.reduceMul, Nat.reduceLT, Nat.reduceLeDiff, Nat.reduceEqDiff, Nat.reduceBEq, Nat.reduceBNe, Int.reduceToNat, Int.reduceLT, Int.reduceLE, Int.reduceNeg, reduceCtorEq, Int.reduceEq, Int.reduceNe]
    refine AtOp.s2b (e := 5) rfl (by kernel_rfl) (by kernel_rfl) (by kernel_rfl) (by simp -dsimp -implicitDefEqProofs (maxSteps := 1000000) only [go_sem, ↓reduceIte, Nat.reduceAdd, Nat.reduceSub, Nat.reduceMul, Nat.reduceLT, Nat.reduceLeDiff, Nat.reduceEqDiff, Nat.reduceBEq, Nat.reduceBNe, Int.reduceToNat, Int.reduceLT, Int.reduceLE, Int.reduceNeg, reduceCtorEq, Int.reduceEq, Int.reduceNe]; rfl) ?_
    simp only [List.toList_toArray]
    rw [byC_px]
    simp -dsimp -implicitDefEqProofs (maxSteps := 1000000) only [go_sem, ↓reduceIte, Nat.reduceAdd, Nat.reduceSub, Nat.reduceMul, Nat.reduceLT, Nat.reduceLeDiff, Nat.reduceEqDiff, Nat.reduceBEq, Nat.reduceBNe, Int.reduceToNat, Int.reduceLT, Int.reduceLE, Int.reduceNeg, reduceCtorEq, Int.reduceEq, Int.reduceNe]
    refine AtFn.pure0 (chunk56 (toI (trimN l)) 2 (by omega)) ?_
    simp -dsimp -implicitDefEqProofs (maxSteps := 1000000) only [go_sem, ↓reduceIte, Nat.reduceAdd, Nat.reduceSub, Nat.reduceMul, Nat.reduceLT, Nat.reduceLeDiff, Nat.reduceEqDiff, Nat.reduceBEq, Nat.reduceBNe, Int.reduceToNat, Int.reduceLT, Int.reduceLE, Int.reduceNeg, reduceCtorEq, Int.reduceEq, Int.reduceNe]
    obtain ⟨cs, hcs⟩ : ∃ cs, cs = chunkL 2 (trimN l) := ⟨_, rfl⟩
    have hsq := chunk86 (toI (trimN l)) 2 (by omega) (by omega) (by simp [toI]; omega)
    have hxs : ((chunkL 2 (toI (trimN l))).map fun c => [AV.ro 1 (pxC c)]) = cs.map fun c => [AV.ro 1 (pxC (toI c))] := by
      rw [chunkL_map, List.map_map, hcs]; rfl
    rw [hxs] at hsq
    have hcl2 : cs.length ≤ 131328 := by
      rw [hcs, chunkL_len]; omega
    have hone : ∀ c ∈ cs, c.length = 1 ∨ c.length = 2 := fun c hc => chunk2_len (hcs ▸ hc)
    obtain ⟨qf, hqf⟩ : ∃ qf : Nat → List Int, qf = fun j => p ++ (cs.take j).map fun c => (inkP c).1 := ⟨_, rfl⟩
    obtain ⟨okf, hokf⟩ : ∃ okf : Nat → Bool, okf = fun j => (cs.take j).all fun c => (inkP c).2 := ⟨_, rfl⟩
    have hql : ∀ j, (qf j).length ≤ (i + 1) * 131328 := fun j => by
      rw [hqf, List.length_append, List.length_map, List.length_take, Nat.succ_mul]; omega
    have hq0 : qf 0 = p := by rw [hqf]; simp
    have hok0 : okf 0 = true := by rw [hokf]; simp
    have hbad : (∃ c ∈ cs, (inkP c).2 = false) → M = (raZ, 30) := fun h => by
      have hdrop : L.drop i = l :: L.drop (i + 1) := by
        have hlt : i < L.length := by omega
        rw [List.drop_eq_getElem_cons hlt]
        have := List.getElem?_eq_getElem hlt
        rw [hl] at this
        rw [← Option.some.inj this]
      rw [hM, hgo, hdrop, goLines, ← hcs, goPairs_bad cs p h]
    refine AtCode.rangeF 86 [.rp [.ro 1 (pxC (toI (trimN l)))] 0, .rp [I 2] 0] (cs.map fun c => [AV.ro 1 (pxC (toI c))]) [] (fun j => [(0, Str S), (2, .ptr 1 0 0), (3, .ptr 2 0 0), (5, .ptr 3 0 0), (31, .sl 0 0 m), (32, I m), (33, I i)] ++ (if okf j = true then [] else [(100, .ptr 999 0 0)])) (fun _ => [])
      (fun j => [(3, ⟨3, [[I w, I m, .sl 4 0 (qf j).length]]⟩), (0, ⟨1, L.map strC⟩), (1, ⟨3, [[I 0, I 0, .v (.slice none 0 0)]]⟩), (2, ⟨1, [[I 0]]⟩), (4, ⟨1, pxC (qf j)⟩)]) (fun _ => 5) [] ?_ ?_ (by simp [Cl_rp, Cl_ro, Cl_v, clPxT]) hsq ?_ rfl ?_ ?_ (by simp) (by simp [sg]) trivial ?_ ?_
    · simp -dsimp -implicitDefEqProofs (maxSteps := 1000000) only [go_sem, ↓reduceIte, Nat.reduceAdd, Nat.reduceSub, Nat.reduceMul, Nat.reduceLT, Nat.reduceLeDiff, Nat.reduceEqDiff, Nat.reduceBEq, Nat.reduceBNe, Int.reduceToNat, Int.reduceLT, Int.reduceLE, Int.reduceNeg, reduceCtorEq, Int.reduceEq, Int.reduceNe]
    · simp -dsimp -implicitDefEqProofs (maxSteps := 1000000) only [go_sem, ↓reduceIte, Nat.reduceAdd, Nat.reduceSub, Nat.reduceMul, Nat.reduceLT, Nat.reduceLeDiff, Nat.reduceEqDiff, Nat.reduceBEq, Nat.reduceBNe, Int.reduceToNat, Int.reduceLT, Int.reduceLE, Int.reduceNeg, reduceCtorEq, Int.reduceEq, Int.reduceNe]
    · intro bs hbs
      obtain ⟨c, _, rfl⟩ := List.mem_map.1 hbs
      rfl
    · simp only [hok0, if_true, List.append_nil]
      simp -dsimp -implicitDefEqProofs (maxSteps := 1000000) only [go_sem, ↓reduceIte, Nat.reduceAdd, Nat.reduceSub, Nat.reduceMul, Nat.reduceLT, Nat.reduceLeDiff, Nat.reduceEqDiff, Nat.reduceBEq, Nat.reduceBNe, Int.reduceToNat, Int.reduceLT, Int.reduceLE, Int.reduceNeg, reduceCtorEq, Int.reduceEq, Int.reduceNe]
    · simp only [hq0]
      simp -dsimp -implicitDefEqProofs (maxSteps := 1000000) only [go_sem, ↓reduceIte, Nat.reduceAdd, Nat.reduceSub, Nat.reduceMul, Nat.reduceLT, Nat.reduceLeDiff, Nat.reduceEqDiff, Nat.reduceBEq, Nat.reduceBNe, Int.reduceToNat, Int.reduceLT, Int.reduceLE, Int.reduceNeg, reduceCtorEq, Int.reduceEq, Int.reduceNe]
      exact ⟨renL_F (by simp -dsimp -implicitDefEqProofs (maxSteps := 1000000) only [go_sem, ↓reduceIte, Nat.reduceAdd, Nat.reduceSub, Nat.reduceMul, Nat.reduceLT, Nat.reduceLeDiff, Nat.reduceEqDiff, Nat.reduceBEq, Nat.reduceBNe, Int.reduceToNat, Int.reduceLT, Int.reduceLE, Int.reduceNeg, reduceCtorEq, Int.reduceEq, Int.reduceNe]), renL_cl2 rfl (clStr _), renL_F (by simp -dsimp -implicitDefEqProofs (maxSteps := 1000000) only [go_sem, ↓reduceIte, Nat.reduceAdd, Nat.reduceSub, Nat.reduceMul, Nat.reduceLT, Nat.reduceLeDiff, Nat.reduceEqDiff, Nat.reduceBEq, Nat.reduceBNe, Int.reduceToNat, Int.reduceLT, Int.reduceLE, Int.reduceNeg, reduceCtorEq, Int.reduceEq, Int.reduceNe]), renL_F (by simp -dsimp -implicitDefEqProofs (maxSteps := 1000000) only [go_sem, ↓reduceIte, Nat.reduceAdd, Nat.reduceSub, Nat.reduceMul, Nat.reduceLT, Nat.reduceLeDiff, Nat.reduceEqDiff, Nat.reduceBEq, Nat.reduceBNe, Int.reduceToNat, Int.reduceLT, Int.reduceLE, Int.reduceNeg, reduceCtorEq, Int.reduceEq, Int.reduceNe]), renL_cl2 rfl (clPx _)⟩
    · intro j bs hbs
      obtain ⟨c, hc, rfl⟩ : ∃ c, cs[j]? = some c ∧ [AV.ro 1 (pxC (toI c))] = bs := by simpa using hbs
      have hcm := List.mem_of_getElem? hc
      simp -dsimp -implicitDefEqProofs (maxSteps := 1000000) only [go_sem, ↓reduceIte, Nat.reduceAdd, Nat.reduceSub, Nat.reduceMul, Nat.reduceLT, Nat.reduceLeDiff, Nat.reduceEqDiff, Nat.reduceBEq, Nat.reduceBNe, Int.reduceToNat, Int.reduceLT, Int.reduceLE, Int.reduceNeg, reduceCtorEq, Int.reduceEq, Int.reduceNe]
      refine AtOp.b2s (e := 5) (l := toI c) rfl (by kernel_rfl) (by kernel_rfl) (by kernel_rfl) (by simp -dsimp -implicitDefEqProofs (maxSteps := 1000000) only [go_sem, ↓reduceIte, Nat.reduceAdd, Nat.reduceSub, Nat.reduceMul, Nat.reduceLT, Nat.reduceLeDiff, Nat.reduceEqDiff, Nat.reduceBEq, Nat.reduceBNe, Int.reduceToNat, Int.reduceLT, Int.reduceLE, Int.reduceNeg, reduceCtorEq, Int.reduceEq, Int.reduceNe]) ⟨rfl, rfl⟩ ?_
      rw [ofI_toI]
      simp -dsimp -implicitDefEqProofs (maxSteps := 1000000) only [go_sem, ↓reduceIte, Nat.reduceAdd, Nat.reduceSub, Nat.reduceMul, Nat.reduceLT, Nat.reduceLeDiff, Nat.reduceEqDiff, Nat.reduceBEq, Nat.reduceBNe, Int.reduceToNat, Int.reduceLT, Int.reduceLE, Int.reduceNeg, reduceCtorEq, Int.reduceEq, Int.reduceNe]
      refine AtFn.pure0 (inkOf58 c (hone c hcm)) ?_
      simp -dsimp -implicitDefEqProofs (maxSteps := 1000000) only [go_sem, ↓reduceIte, Nat.reduceAdd, Nat.reduceSub, Nat.reduceMul, Nat.reduceLT, Nat.reduceLeDiff, Nat.reduceEqDiff, Nat.reduceBEq, Nat.reduceBNe, Int.reduceToNat, Int.reduceLT, Int.reduceLE, Int.reduceNeg, reduceCtorEq, Int.reduceEq, Int.reduceNe]
      by_cases hok : (inkP c).2 = true
      · simp -dsimp -implicitDefEqProofs (maxSteps := 1000000) only [go_sem, ↓reduceIte, Nat.reduceAdd, Nat.reduceSub, Nat.reduceMul, Nat.reduceLT, Nat.reduceLeDiff, Nat.reduceEqDiff, Nat.reduceBEq, Nat.reduceBNe, Int.reduceToNat, Int.reduceLT, Int.reduceLE, Int.reduceNeg, reduceCtorEq, Int.reduceEq, Int.reduceNe, hok]
        refine AtOp.appE _ _ _ _ _ _ _ _ _ _ _ _ _ _ (by kernel_rfl) ?_
        have w1 : 0 + (qf j).length ≤ (pxC (qf j)).length := by rw [pxC_len]; omega
        have e5 : pxC (qf j) ++ [[AV.v (Value.int IntKind.u8 (inkP c).1)]] = pxC (qf (j + 1)) := by
          rw [hqf]
          simp only
          rw [List.take_add_one, hc]
          simp [pxC]
        have hqj := hql j
        simp -dsimp -implicitDefEqProofs (maxSteps := 1000000) only [go_sem, ↓reduceIte, Nat.reduceAdd, Nat.reduceSub, Nat.reduceMul, Nat.reduceLT, Nat.reduceLeDiff, Nat.reduceEqDiff, Nat.reduceBEq, Nat.reduceBNe, Int.reduceToNat, Int.reduceLT, Int.reduceLE, Int.reduceNeg, reduceCtorEq, Int.reduceEq, Int.reduceNe, pxC_len, takePx _ _ rfl, Nat.zero_add, Nat.le_refl, e5]
        refine ⟨by omega, ?_⟩
        by_cases hoj : okf j = true
        · have hoj1 : okf (j + 1) = true := by
            rw [hokf] at hoj ⊢
            simp only at hoj ⊢
            rw [List.take_add_one, hc, List.all_append, hoj]
            simp [hok]
          simp only [hoj, hoj1, if_true]
          refine Le.hid (Ls := []) [(4, 6)] (by simp -dsimp -implicitDefEqProofs (maxSteps := 1000000) only [go_sem, ↓reduceIte, Nat.reduceAdd, Nat.reduceSub, Nat.reduceMul, Nat.reduceLT, Nat.reduceLeDiff, Nat.reduceEqDiff, Nat.reduceBEq, Nat.reduceBNe, Int.reduceToNat, Int.reduceLT, Int.reduceLE, Int.reduceNeg, reduceCtorEq, Int.reduceEq, Int.reduceNe]) ?_ (by simp) (by simp [sg]) trivial
          simp -dsimp -implicitDefEqProofs (maxSteps := 1000000) only [go_sem, ↓reduceIte, Nat.reduceAdd, Nat.reduceSub, Nat.reduceMul, Nat.reduceLT, Nat.reduceLeDiff, Nat.reduceEqDiff, Nat.reduceBEq, Nat.reduceBNe, Int.reduceToNat, Int.reduceLT, Int.reduceLE, Int.reduceNeg, reduceCtorEq, Int.reduceEq, Int.reduceNe]
          exact ⟨renL_F (by simp -dsimp -implicitDefEqProofs (maxSteps := 1000000) only [go_sem, ↓reduceIte, Nat.reduceAdd, Nat.reduceSub, Nat.reduceMul, Nat.reduceLT, Nat.reduceLeDiff, Nat.reduceEqDiff, Nat.reduceBEq, Nat.reduceBNe, Int.reduceToNat, Int.reduceLT, Int.reduceLE, Int.reduceNeg, reduceCtorEq, Int.reduceEq, Int.reduceNe]), renL_cl2 rfl (clStr _), renL_F (by simp -dsimp -implicitDefEqProofs (maxSteps := 1000000) only [go_sem, ↓reduceIte, Nat.reduceAdd, Nat.reduceSub, Nat.reduceMul, Nat.reduceLT, Nat.reduceLeDiff, Nat.reduceEqDiff, Nat.reduceBEq, Nat.reduceBNe, Int.reduceToNat, Int.reduceLT, Int.reduceLE, Int.reduceNeg, reduceCtorEq, Int.reduceEq, Int.reduceNe]), renL_F (by simp -dsimp -implicitDefEqProofs (maxSteps := 1000000) only [go_sem, ↓reduceIte, Nat.reduceAdd, Nat.reduceSub, Nat.reduceMul, Nat.reduceLT, Nat.reduceLeDiff, Nat.reduceEqDiff, Nat.reduceBEq, Nat.reduceBNe, Int.reduceToNat, Int.reduceLT, Int.reduceLE, Int.reduceNeg, reduceCtorEq, Int.reduceEq, Int.reduceNe]), renL_cl2 rfl (clPx _)⟩
        · simp only [hoj]
          exact Le.botS (by simp -dsimp -implicitDefEqProofs (maxSteps := 1000000) only [go_sem, ↓reduceIte, Nat.reduceAdd, Nat.reduceSub, Nat.reduceMul, Nat.reduceLT, Nat.reduceLeDiff, Nat.reduceEqDiff, Nat.reduceBEq, Nat.reduceBNe, Int.reduceToNat, Int.reduceLT, Int.reduceLE, Int.reduceNeg, reduceCtorEq, Int.reduceEq, Int.reduceNe]) (by omega)
      · have hok : (inkP c).2 = false := by simpa using hok
        simp -dsimp -implicitDefEqProofs (maxSteps := 1000000) only [go_sem, ↓reduceIte, Nat.reduceAdd, Nat.reduceSub, Nat.reduceMul, Nat.reduceLT, Nat.reduceLeDiff, Nat.reduceEqDiff, Nat.reduceBEq, Nat.reduceBNe, Int.reduceToNat, Int.reduceLT, Int.reduceLE, Int.reduceNeg, reduceCtorEq, Int.reduceEq, Int.reduceNe, hok]
        refine AtFn.pure0 (none53 30) ?_
        simp -dsimp -implicitDefEqProofs (maxSteps := 1000000) only [go_sem, ↓reduceIte, Nat.reduceAdd, Nat.reduceSub, Nat.reduceMul, Nat.reduceLT, Nat.reduceLeDiff, Nat.reduceEqDiff, Nat.reduceBEq, Nat.reduceBNe, Int.reduceToNat, Int.reduceLT, Int.reduceLE, Int.reduceNeg, reduceCtorEq, Int.reduceEq, Int.reduceNe]
        rw [hE (hbad ⟨c, hcm, hok⟩)]
    · obtain ⟨P, hP⟩ : ∃ P, P = qf cs.length := ⟨_, rfl⟩
      have hPl : P.length ≤ (i + 1) * 131328 := hP ▸ hql _
      rw [List.length_map, ← hP]
      have hdrop : L.drop i = l :: L.drop (i + 1) := by
        have hlt : i < L.length := by omega
        rw [List.drop_eq_getElem_cons hlt]
        have := List.getElem?_eq_getElem hlt
        rw [hl] at this
        rw [← Option.some.inj this]
      by_cases hoka : okf cs.length = true
      · have hall : ∀ c ∈ cs, (inkP c).2 = true := by
          rw [hokf] at hoka
          simp only [List.take_length] at hoka
          exact fun c hc => List.all_eq_true.1 hoka c hc
        have hPe : P = p ++ cs.map fun c => (inkP c).1 := by rw [hP, hqf]; simp
        have hgo2 : goLines L 0 [] = goLines (L.drop (i + 1)) (if w = 0 then (P.length : Int) else w) P := by
          rw [hgo, hdrop, goLines, ← hcs, goPairs_good cs p hall, ← hPe]
        have hokP : okP P := by
          intro x hx
          rw [hPe] at hx
          rcases List.mem_append.1 hx with hx | hx
          · exact hokp x hx
          · obtain ⟨c, _, rfl⟩ := List.mem_map.1 hx
            exact inkP_bd
        simp only [hoka, if_true, List.append_nil]
        by_cases hw : w = 0
        · simp only [hw, if_true] at hgo2
          simp -dsimp -implicitDefEqProofs (maxSteps := 1000000) only [go_sem, ↓reduceIte, Nat.reduceAdd, Nat.reduceSub, Nat.reduceMul, Nat.reduceLT, Nat.reduceLeDiff, Nat.reduceEqDiff, Nat.reduceBEq, Nat.reduceBNe, Int.reduceToNat, Int.reduceLT, Int.reduceLE, Int.reduceNeg, reduceCtorEq, Int.reduceEq, Int.reduceNe, hw]
          refine ⟨.inl ⟨(i + 1, (P.length : Int), P), by omega, hgo2, hPl, hokP⟩, by show m - (i + 1) + 1 < m - i + 1; omega, Le.tl (Ls := []) [] (by simp -dsimp -implicitDefEqProofs (maxSteps := 1000000) only [go_sem, ↓reduceIte, Nat.reduceAdd, Nat.reduceSub, Nat.reduceMul, Nat.reduceLT, Nat.reduceLeDiff, Nat.reduceEqDiff, Nat.reduceBEq, Nat.reduceBNe, Int.reduceToNat, Int.reduceLT, Int.reduceLE, Int.reduceNeg, reduceCtorEq, Int.reduceEq, Int.reduceNe, ei]) ?_ (by simp) (by simp [sg]) trivial⟩
          simp -dsimp -implicitDefEqProofs (maxSteps := 1000000) only [go_sem, ↓reduceIte, Nat.reduceAdd, Nat.reduceSub, Nat.reduceMul, Nat.reduceLT, Nat.reduceLeDiff, Nat.reduceEqDiff, Nat.reduceBEq, Nat.reduceBNe, Int.reduceToNat, Int.reduceLT, Int.reduceLE, Int.reduceNeg, reduceCtorEq, Int.reduceEq, Int.reduceNe]
          exact ⟨renL_F (by simp -dsimp -implicitDefEqProofs (maxSteps := 1000000) only [go_sem, ↓reduceIte, Nat.reduceAdd, Nat.reduceSub, Nat.reduceMul, Nat.reduceLT, Nat.reduceLeDiff, Nat.reduceEqDiff, Nat.reduceBEq, Nat.reduceBNe, Int.reduceToNat, Int.reduceLT, Int.reduceLE, Int.reduceNeg, reduceCtorEq, Int.reduceEq, Int.reduceNe]), renL_cl2 rfl (clStr _), renL_F (by simp -dsimp -implicitDefEqProofs (maxSteps := 1000000) only [go_sem, ↓reduceIte, Nat.reduceAdd, Nat.reduceSub, Nat.reduceMul, Nat.reduceLT, Nat.reduceLeDiff, Nat.reduceEqDiff, Nat.reduceBEq, Nat.reduceBNe, Int.reduceToNat, Int.reduceLT, Int.reduceLE, Int.reduceNeg, reduceCtorEq, Int.reduceEq, Int.reduceNe]), renL_F (by simp -dsimp -implicitDefEqProofs (maxSteps := 1000000) only [go_sem, ↓reduceIte, Nat.reduceAdd, Nat.reduceSub, Nat.reduceMul, Nat.reduceLT, Nat.reduceLeDiff, Nat.reduceEqDiff, Nat.reduceBEq, Nat.reduceBNe, Int.reduceToNat, Int.reduceLT, Int.reduceLE, Int.reduceNeg, reduceCtorEq, Int.reduceEq, Int.reduceNe]), renL_cl2 rfl (clPx _)⟩
        · simp only [hw, if_false] at hgo2
          simp -dsimp -implicitDefEqProofs (maxSteps := 1000000) only [go_sem, ↓reduceIte, Nat.reduceAdd, Nat.reduceSub, Nat.reduceMul, Nat.reduceLT, Nat.reduceLeDiff, Nat.reduceEqDiff, Nat.reduceBEq, Nat.reduceBNe, Int.reduceToNat, Int.reduceLT, Int.reduceLE, Int.reduceNeg, reduceCtorEq, Int.reduceEq, Int.reduceNe, hw]
          refine ⟨.inl ⟨(i + 1, w, P), by omega, hgo2, hPl, hokP⟩, by show m - (i + 1) + 1 < m - i + 1; omega, Le.tl (Ls := []) [] (by simp -dsimp -implicitDefEqProofs (maxSteps := 1000000) only [go_sem, ↓reduceIte, Nat.reduceAdd, Nat.reduceSub, Nat.reduceMul, Nat.reduceLT, Nat.reduceLeDiff, Nat.reduceEqDiff, Nat.reduceBEq, Nat.reduceBNe, Int.reduceToNat, Int.reduceLT, Int.reduceLE, Int.reduceNeg, reduceCtorEq, Int.reduceEq, Int.reduceNe, ei]) ?_ (by simp) (by simp [sg]) trivial⟩
          simp -dsimp -implicitDefEqProofs (maxSteps := 1000000) only [go_sem, ↓reduceIte, Nat.reduceAdd, Nat.reduceSub, Nat.reduceMul, Nat.reduceLT, Nat.reduceLeDiff, Nat.reduceEqDiff, Nat.reduceBEq, Nat.reduceBNe, Int.reduceToNat, Int.reduceLT, Int.reduceLE, Int.reduceNeg, reduceCtorEq, Int.reduceEq, Int.reduceNe]
          exact ⟨renL_F (by simp -dsimp -implicitDefEqProofs (maxSteps := 1000000) only [go_sem, ↓reduceIte, Nat.reduceAdd, Nat.reduceSub, Nat.reduceMul, Nat.reduceLT, Nat.reduceLeDiff, Nat.reduceEqDiff, Nat.reduceBEq, Nat.reduceBNe, Int.reduceToNat, Int.reduceLT, Int.reduceLE, Int.reduceNeg, reduceCtorEq, Int.reduceEq, Int.reduceNe]), renL_cl2 rfl (clStr _), renL_F (by simp -dsimp -implicitDefEqProofs (maxSteps := 1000000) only [go_sem, ↓reduceIte, Nat.reduceAdd, Nat.reduceSub, Nat.reduceMul, Nat.reduceLT, Nat.reduceLeDiff, Nat.reduceEqDiff, Nat.reduceBEq, Nat.reduceBNe, Int.reduceToNat, Int.reduceLT, Int.reduceLE, Int.reduceNeg, reduceCtorEq, Int.reduceEq, Int.reduceNe]), renL_F (by simp -dsimp -implicitDefEqProofs (maxSteps := 1000000) only [go_sem, ↓reduceIte, Nat.reduceAdd, Nat.reduceSub, Nat.reduceMul, Nat.reduceLT, Nat.reduceLeDiff, Nat.reduceEqDiff, Nat.reduceBEq, Nat.reduceBNe, Int.reduceToNat, Int.reduceLT, Int.reduceLE, Int.reduceNeg, reduceCtorEq, Int.reduceEq, Int.reduceNe]), renL_cl2 rfl (clPx _)⟩
      · have hMe : M = (raZ, 30) := by
          refine hbad ?_
          rw [hokf] at hoka
          simp only [List.take_length] at hoka
          have : cs.all (fun c => (inkP c).2) = false := by simpa using hoka
          obtain ⟨c, hc, h2⟩ := List.all_eq_false.1 this
          exact ⟨c, hc, by simpa using h2⟩
        simp only [hoka]
        by_cases hw : w = 0
        · simp -dsimp -implicitDefEqProofs (maxSteps := 1000000) only [go_sem, ↓reduceIte, Nat.reduceAdd, Nat.reduceSub, Nat.reduceMul, Nat.reduceLT, Nat.reduceLeDiff, Nat.reduceEqDiff, Nat.reduceBEq, Nat.reduceBNe, Int.reduceToNat, Int.reduceLT, Int.reduceLE, Int.reduceNeg, reduceCtorEq, Int.reduceEq, Int.reduceNe, hw, Bool.false_eq_true]
          exact ⟨.inr ⟨(), hMe⟩, by show 0 < m - i + 1; omega, Le.bot (by simp -dsimp -implicitDefEqProofs (maxSteps := 1000000) only [go_sem, ↓reduceIte, Nat.reduceAdd, Nat.reduceSub, Nat.reduceMul, Nat.reduceLT, Nat.reduceLeDiff, Nat.reduceEqDiff, Nat.reduceBEq, Nat.reduceBNe, Int.reduceToNat, Int.reduceLT, Int.reduceLE, Int.reduceNeg, reduceCtorEq, Int.reduceEq, Int.reduceNe]) (by omega)⟩
        · simp -dsimp -implicitDefEqProofs (maxSteps := 1000000) only [go_sem, ↓reduceIte, Nat.reduceAdd, Nat.reduceSub, Nat.reduceMul, Nat.reduceLT, Nat.reduceLeDiff, Nat.reduceEqDiff, Nat.reduceBEq, Nat.reduceBNe, Int.reduceToNat, Int.reduceLT, Int.reduceLE, Int.reduceNeg, reduceCtorEq, Int.reduceEq, Int.reduceNe, hw, Bool.false_eq_true]
          exact ⟨.inr ⟨(), hMe⟩, by show 0 < m - i + 1; omega, Le.bot (by simp -dsimp -implicitDefEqProofs (maxSteps := 1000000) only [go_sem, ↓reduceIte, Nat.reduceAdd, Nat.reduceSub, Nat.reduceMul, Nat.reduceLT, Nat.reduceLeDiff, Nat.reduceEqDiff, Nat.reduceBEq, Nat.reduceBNe, Int.reduceToNat, Int.reduceLT, Int.reduceLE, Int.reduceNeg, reduceCtorEq, Int.reduceEq, Int.reduceNe]) (by omega)⟩
  · have him : i = m := by omega
    have hgm : goLines L 0 [] = some (w, p) := by
      rw [hgo, him, hm, List.drop_length]; rfl
    have ht := text17 ⟨w, m, p⟩ hokp
    have ht2 : PFun Tryd.prog 17 [.g [I w, I (m : Int), .ro 1 (pxC p)]] (.t (List.map AV.v [.string ⟨(textP ⟨w, m, p⟩).1.toArray⟩, .int .i64 (textP ⟨w, m, p⟩).2])) := ht
    rw [hgm] at hM
    simp only at hM
    refine AtFn.keepT _ ht2 ?_
    obtain ⟨T, e, hT⟩ : ∃ (T : List UInt8) (e : Int), textP ⟨w, m, p⟩ = (T, e) := ⟨_, _, rfl⟩
    rw [hT] at hM ⊢
    simp only at hM ⊢
    by_cases he : e = 0
    · by_cases hs : T = S
      · have hbs : (({ data := T.toArray } : ByteArray).toList == ({ data := S.toArray } : ByteArray).toList) = true := (str_eq T S).2 hs
        rw [if_pos ⟨he, hs⟩] at hM
        have hne : M ≠ (raZ, 30) := by rw [hM]; intro h; cases h
        simp -dsimp -implicitDefEqProofs (maxSteps := 1000000) only [go_sem, ↓reduceIte, Nat.reduceAdd, Nat.reduceSub, Nat.reduceMul, Nat.reduceLT, Nat.reduceLeDiff, Nat.reduceEqDiff, Nat.reduceBEq, Nat.reduceBNe, Int.reduceToNat, Int.reduceLT, Int.reduceLE, Int.reduceNeg, reduceCtorEq, Int.reduceEq, Int.reduceNe, pxC_len, takePx _ _ rfl, Nat.zero_add, Nat.le_refl, he, hbs]
        rw [hO hne, hM]
      · have hbs : (({ data := T.toArray } : ByteArray).toList == ({ data := S.toArray } : ByteArray).toList) = false := (str_eqF T S).2 hs
        rw [if_neg (fun h => hs h.2)] at hM
        simp -dsimp -implicitDefEqProofs (maxSteps := 1000000) only [go_sem, ↓reduceIte, Nat.reduceAdd, Nat.reduceSub, Nat.reduceMul, Nat.reduceLT, Nat.reduceLeDiff, Nat.reduceEqDiff, Nat.reduceBEq, Nat.reduceBNe, Int.reduceToNat, Int.reduceLT, Int.reduceLE, Int.reduceNeg, reduceCtorEq, Int.reduceEq, Int.reduceNe, pxC_len, takePx _ _ rfl, Nat.zero_add, Nat.le_refl, he, hbs]
        refine AtFn.pure0 (none53 30) ?_
        simp -dsimp -implicitDefEqProofs (maxSteps := 1000000) only [go_sem, ↓reduceIte, Nat.reduceAdd, Nat.reduceSub, Nat.reduceMul, Nat.reduceLT, Nat.reduceLeDiff, Nat.reduceEqDiff, Nat.reduceBEq, Nat.reduceBNe, Int.reduceToNat, Int.reduceLT, Int.reduceLE, Int.reduceNeg, reduceCtorEq, Int.reduceEq, Int.reduceNe]
        rw [hE hM]
    · rw [if_neg (fun h => he h.1)] at hM
      simp -dsimp -implicitDefEqProofs (maxSteps := 1000000) only [go_sem, ↓reduceIte, Nat.reduceAdd, Nat.reduceSub, Nat.reduceMul, Nat.reduceLT, Nat.reduceLeDiff, Nat.reduceEqDiff, Nat.reduceBEq, Nat.reduceBNe, Int.reduceToNat, Int.reduceLT, Int.reduceLE, Int.reduceNeg, reduceCtorEq, Int.reduceEq, Int.reduceNe, pxC_len, takePx _ _ rfl, Nat.zero_add, Nat.le_refl, he]
      refine AtFn.pure0 (none53 30) ?_
      simp -dsimp -implicitDefEqProofs (maxSteps := 1000000) only [go_sem, ↓reduceIte, Nat.reduceAdd, Nat.reduceSub, Nat.reduceMul, Nat.reduceLT, Nat.reduceLeDiff, Nat.reduceEqDiff, Nat.reduceBEq, Nat.reduceBNe, Int.reduceToNat, Int.reduceLT, Int.reduceLE, Int.reduceNeg, reduceCtorEq, Int.reduceEq, Int.reduceNe]
      rw [hE hM]
end

section
set_option maxRecDepth 20000
attribute [local go_sem] clPxT
theorem ofI_inj {a b : List Int} (ha : okP a) (hb : okP b) : ((a.map fun n => UInt8.ofNat n.toNat) = b.map fun n => UInt8.ofNat n.toNat) ↔ a = b := by
  refine ⟨fun h => ?_, fun h => by rw [h]⟩
  have key : ∀ (a : List Int), okP a → (a.map fun n => UInt8.ofNat n.toNat).map (fun c => (c.toNat : Int)) = a := by
    intro a ha
    rw [List.map_map]
    conv => rhs; rw [← List.map_id a]
    refine List.map_congr_left fun x hx => ?_
    have := ha x hx
    simp only [Function.comp, UInt8.toNat_ofNat', id]
    omega
  have := congrArg (List.map fun c : UInt8 => (c.toNat : Int)) h
  rwa [key a ha, key b hb] at this
def sameB (a b : Ra) : Bool := decide (a.w = b.w) && decide (a.h = b.h) && decide (a.p = b.p)
theorem same16 (a b : Ra) (ha : okP a.p) (hb : okP b.p) : PFun Tryd.prog 16 [RaA a, RaA b] (Bo (sameB a b)) := by
  obtain ⟨w, h, p⟩ := a
  obtain ⟨w', h', p'⟩ := b
  have hs : ∀ c, ((({ data := (p.map fun n => UInt8.ofNat n.toNat).toArray } : ByteArray).toList == ({ data := (p'.map fun n => UInt8.ofNat n.toNat).toArray } : ByteArray).toList) = c) → decide (p = p') = c := by
    intro c hc
    rw [← hc, Bool.eq_iff_iff, decide_eq_true_eq, str_eq, ofI_inj ha hb]
  refine PFun.intro 400 mixed Tryd.func16 (by kernel_rfl) rfl (by first | exact .v _ | (simp [Cl_v, Cl_t, Cl_g, Cl_fn, Cl_rp, Cl_ro]; done) | (simp [Cl_v, Cl_t, Cl_g, Cl_fn, Cl_rp, Cl_ro, or_imp, forall_and]; done) | (split <;> simp [Cl_v, Cl_t, Cl_g, Cl_fn, Cl_rp, Cl_ro])) (Nat.le_of_ble_eq_true rfl) ?_; rw [Tryd.ntmps16, Tryd.results16]
  simp -dsimp -implicitDefEqProofs (maxSteps := 1000000) only [go_sem, ↓reduceIte, Nat.reduceAdd, Nat.reduceSub, Nat.reduceMul, Nat.reduceLT, Nat.reduceLeDiff, Nat.reduceEqDiff, Nat.reduceBEq, Nat.reduceBNe, Int.reduceToNat, Int.reduceLT, Int.reduceLE, Int.reduceNeg, reduceCtorEq, Int.reduceEq, Int.reduceNe]
  refine ⟨fun h1 => ⟨fun h2 => ?_, fun h2 => ?_⟩, fun h1 => ?_⟩
  · refine AtOp.b2s (e := 5) (l := p) rfl (by kernel_rfl) (by kernel_rfl) (by kernel_rfl) (by simp -dsimp -implicitDefEqProofs (maxSteps := 1000000) only [go_sem, ↓reduceIte, Nat.reduceAdd, Nat.reduceSub, Nat.reduceMul, Nat.reduceLT, Nat.reduceLeDiff, Nat.reduceEqDiff, Nat.reduceBEq, Nat.reduceBNe, Int.reduceToNat, Int.reduceLT, Int.reduceLE, Int.reduceNeg, reduceCtorEq, Int.reduceEq, Int.reduceNe]) ⟨rfl, rfl⟩ ?_
    simp -dsimp -implicitDefEqProofs (maxSteps := 1000000) only [go_sem, ↓reduceIte, Nat.reduceAdd, Nat.reduceSub, Nat.reduceMul, Nat.reduceLT, Nat.reduceLeDiff, Nat.reduceEqDiff, Nat.reduceBEq, Nat.reduceBNe, Int.reduceToNat, Int.reduceLT, Int.reduceLE, Int.reduceNeg, reduceCtorEq, Int.reduceEq, Int.reduceNe]
    refine AtOp.b2s (e := 5) (l := p') rfl (by kernel_rfl) (by kernel_rfl) (by kernel_rfl) (by simp -dsimp -implicitDefEqProofs (maxSteps := 1000000) only [go_sem, ↓reduceIte, Nat.reduceAdd, Nat.reduceSub, Nat.reduceMul, Nat.reduceLT, Nat.reduceLeDiff, Nat.reduceEqDiff, Nat.reduceBEq, Nat.reduceBNe, Int.reduceToNat, Int.reduceLT, Int.reduceLE, Int.reduceNeg, reduceCtorEq, Int.reduceEq, Int.reduceNe]) ⟨rfl, rfl⟩ ?_
    simp -dsimp -implicitDefEqProofs (maxSteps := 1000000) only [go_sem, ↓reduceIte, Nat.reduceAdd, Nat.reduceSub, Nat.reduceMul, Nat.reduceLT, Nat.reduceLeDiff, Nat.reduceEqDiff, Nat.reduceBEq, Nat.reduceBNe, Int.reduceToNat, Int.reduceLT, Int.reduceLE, Int.reduceNeg, reduceCtorEq, Int.reduceEq, Int.reduceNe]
    have := hs _ rfl
    simp only [sameB, h1, h2, decide_true, Bool.true_and, this]
  · simp [sameB, h1, h2]
  · simp [sameB, h1]
def boxF (w h : Nat) (p : List Int) : Nat → Int × Int × Int × Int
  | 0 => (w, h, -1, -1)
  | k + 1 => if p.getD k 0 = 0 then boxF w h p k else (min (boxF w h p k).1 ((k % w : Nat) : Int), min (boxF w h p k).2.1 ((k / w : Nat) : Int), max (boxF w h p k).2.2.1 ((k % w : Nat) : Int), max (boxF w h p k).2.2.2 ((k / w : Nat) : Int))
def boxE (s : Int × Int × Int × Int) : (Int × Int × Int × Int) × Int := if s.2.2.1 < 0 then ((0, 0, 0, 0), 4) else ((s.1, s.2.1, wr (wr (s.2.2.1 - s.1) + 1), wr (wr (s.2.2.2 - s.2.1) + 1)), 0)
def boxP (r : Ra) : (Int × Int × Int × Int) × Int := if vaB r then boxE (boxF r.w.toNat r.h.toNat r.p r.p.length) else ((0, 0, 0, 0), 2)
abbrev BxA (x : (Int × Int × Int × Int) × Int) : AV := .t [.g [I x.1.1, I x.1.2.1, I x.1.2.2.1, I x.1.2.2.2], I x.2]
theorem clBx (x : (Int × Int × Int × Int) × Int) : Cl (BxA x) := by simp [Cl_t, Cl_g, Cl_v]
theorem box19 (r : Ra) (hok : okP r.p) : PFun Tryd.prog 19 [RaA r] (BxA (boxP r)) := by
  have hv := valid62 r
  unfold boxP
  by_cases hc : vaB r = true
  · rw [if_pos hc]
    obtain ⟨w, h, p, rfl, w1, w2, h1, h2, hlen⟩ := vaR_of hc
    have hN := prodN w2 h2
    show PFun Tryd.prog 19 [RaA ⟨w, h, p⟩] (BxA (boxE (boxF w h p p.length)))
    have ew : ¬ (w : Int) = 0 := by omega
    refine PFun.intro 400 mixed Tryd.func19 (by kernel_rfl) rfl (clBx _) (Nat.le_of_ble_eq_true rfl) ?_; rw [Tryd.ntmps19, Tryd.results19]
    simp -dsimp -implicitDefEqProofs (maxSteps := 1000000) only [go_sem, ↓reduceIte, Nat.reduceAdd, Nat.reduceSub, Nat.reduceMul, Nat.reduceLT, Nat.reduceLeDiff, Nat.reduceEqDiff, Nat.reduceBEq, Nat.reduceBNe, Int.reduceToNat, Int.reduceLT, Int.reduceLE, Int.reduceNeg, reduceCtorEq, Int.reduceEq, Int.reduceNe]
    refine AtFn.pure0 hv ?_
    simp -dsimp -implicitDefEqProofs (maxSteps := 1000000) only [go_sem, ↓reduceIte, Nat.reduceAdd, Nat.reduceSub, Nat.reduceMul, Nat.reduceLT, Nat.reduceLeDiff, Nat.reduceEqDiff, Nat.reduceBEq, Nat.reduceBNe, Int.reduceToNat, Int.reduceLT, Int.reduceLE, Int.reduceNeg, reduceCtorEq, Int.reduceEq, Int.reduceNe, hc]
    refine AtCode.draw 8 [([], []), ([0], []), ([], []), ([2], []), ([0, 1], []), ([0, 1, 2, 3, 4], []), ([0, 1, 2, 3, 4, 5], []), ([0, 1, 2, 3, 4, 5, 6], [])] (by kernel_rfl) ?_
    simp -dsimp -implicitDefEqProofs (maxSteps := 1000000) only [go_sem, ↓reduceIte, Nat.reduceAdd, Nat.reduceSub, Nat.reduceMul, Nat.reduceLT, Nat.reduceLeDiff, Nat.reduceEqDiff, Nat.reduceBEq, Nat.reduceBNe, Int.reduceToNat, Int.reduceLT, Int.reduceLE, Int.reduceNeg, reduceCtorEq, Int.reduceEq, Int.reduceNe, pxC_len]
    refine ⟨{k : Nat // k ≤ p.length}, fun k => ⟨65, tl [(1, .ptr 0 0 0), (2, .ptr 1 0 0), (4, I (boxF w h p k.1).1), (5, I (boxF w h p k.1).2.1), (6, I (boxF w h p k.1).2.2.1), (7, I (boxF w h p k.1).2.2.2), (21, .ro 1 (pxC p)), (22, I p.length), (23, I k.1)], [(1, ⟨4, [[I 0, I 0, I 0, I 0]]⟩), (0, ⟨3, [[I w, I h, .ro 1 (pxC p)]]⟩)], 2, .nil⟩, fun k => p.length - k.1,
      ⟨⟨0, by omega⟩, Le.tl (Ls := []) (y := none) [] (by simp -dsimp -implicitDefEqProofs (maxSteps := 1000000) only [go_sem, ↓reduceIte, Nat.reduceAdd, Nat.reduceSub, Nat.reduceMul, Nat.reduceLT, Nat.reduceLeDiff, Nat.reduceEqDiff, Nat.reduceBEq, Nat.reduceBNe, Int.reduceToNat, Int.reduceLT, Int.reduceLE, Int.reduceNeg, reduceCtorEq, Int.reduceEq, Int.reduceNe, boxF]) ?_ (by simp) (by simp [sg]) trivial⟩, fun k => ?_⟩
    · simp -dsimp -implicitDefEqProofs (maxSteps := 1000000) only [go_sem, ↓reduceIte, Nat.reduceAdd, Nat.reduceSub, Nat.reduceMul, Nat.reduceLT, Nat.reduceLeDiff, Nat.reduceEqDiff, Nat.reduceBEq, Nat.reduceBNe, Int.reduceToNat, Int.reduceLT, Int.reduceLE, Int.reduceNeg, reduceCtorEq, Int.reduceEq, Int.reduceNe]
      exact ⟨renL_F (by simp -dsimp -implicitDefEqProofs (maxSteps := 1000000) only [go_sem, ↓reduceIte, Nat.reduceAdd, Nat.reduceSub, Nat.reduceMul, Nat.reduceLT, Nat.reduceLeDiff, Nat.reduceEqDiff, Nat.reduceBEq, Nat.reduceBNe, Int.reduceToNat, Int.reduceLT, Int.reduceLE, Int.reduceNeg, reduceCtorEq, Int.reduceEq, Int.reduceNe]), renL_F (by simp -dsimp -implicitDefEqProofs (maxSteps := 1000000) only [go_sem, ↓reduceIte, Nat.reduceAdd, Nat.reduceSub, Nat.reduceMul, Nat.reduceLT, Nat.reduceLeDiff, Nat.reduceEqDiff, Nat.reduceBEq, Nat.reduceBNe, Int.reduceToNat, Int.reduceLT, Int.reduceLE, Int.reduceNeg, reduceCtorEq, Int.reduceEq, Int.reduceNe])⟩
    obtain ⟨k, hk⟩ := k
    simp -dsimp -implicitDefEqProofs (maxSteps := 1000000) only [go_sem, ↓reduceIte, Nat.reduceAdd, Nat.reduceSub, Nat.reduceMul, Nat.reduceLT, Nat.reduceLeDiff, Nat.reduceEqDiff, Nat.reduceBEq, Nat.reduceBNe, Int.reduceToNat, Int.reduceLT, Int.reduceLE, Int.reduceNeg, reduceCtorEq, Int.reduceEq, Int.reduceNe, pxC_len]
    refine ⟨fun hk' => ?_, fun hout => ?_⟩
    · have hkl : k < p.length := by omega
      have ek := wrA1 (a := k) (by omega)
      have g1 := getD_some hkl
      have hx := hok _ (List.mem_of_getElem? g1)
      have hq : k / w ≤ k := Nat.div_le_self _ _
      have e4 : wr ((k / w : Nat) : Int) = ((k / w : Nat) : Int) := wrN (by omega)
      simp -dsimp -implicitDefEqProofs (maxSteps := 1000000) only [go_sem, ↓reduceIte, Nat.reduceAdd, Nat.reduceSub, Nat.reduceMul, Nat.reduceLT, Nat.reduceLeDiff, Nat.reduceEqDiff, Nat.reduceBEq, Nat.reduceBNe, Int.reduceToNat, Int.reduceLT, Int.reduceLE, Int.reduceNeg, reduceCtorEq, Int.reduceEq, Int.reduceNe, pxC_get, g1, Int.natCast_nonneg, Int.toNat_natCast, Nat.zero_add]
      refine AtCode.draw 10 [([], []), ([], []), ([1], []), ([0, 1, 2], []), ([], []), ([], []), ([5], []), ([4, 5, 6], []), ([0, 1, 2, 3], []), ([0, 1, 2, 3, 4, 5, 6, 7, 8], [])] (by kernel_rfl) ?_
      by_cases hx0 : p.getD k 0 = 0
      · have f1 : ¬ 0 < p.getD k 0 := by omega
        have eb : boxF w h p (k + 1) = boxF w h p k := by rw [boxF, if_pos hx0]
        simp -dsimp -implicitDefEqProofs (maxSteps := 1000000) only [go_sem, ↓reduceIte, Nat.reduceAdd, Nat.reduceSub, Nat.reduceMul, Nat.reduceLT, Nat.reduceLeDiff, Nat.reduceEqDiff, Nat.reduceBEq, Nat.reduceBNe, Int.reduceToNat, Int.reduceLT, Int.reduceLE, Int.reduceNeg, reduceCtorEq, Int.reduceEq, Int.reduceNe, tmodN, tdivN, ew, e4, f1]
        refine ⟨⟨k + 1, by omega⟩, by show p.length - (k + 1) < p.length - k; omega, Le.tl (Ls := []) (y := none) [] (by simp -dsimp -implicitDefEqProofs (maxSteps := 1000000) only [go_sem, ↓reduceIte, Nat.reduceAdd, Nat.reduceSub, Nat.reduceMul, Nat.reduceLT, Nat.reduceLeDiff, Nat.reduceEqDiff, Nat.reduceBEq, Nat.reduceBNe, Int.reduceToNat, Int.reduceLT, Int.reduceLE, Int.reduceNeg, reduceCtorEq, Int.reduceEq, Int.reduceNe, ek, eb]) ?_ (by simp) (by simp [sg]) trivial⟩
        simp -dsimp -implicitDefEqProofs (maxSteps := 1000000) only [go_sem, ↓reduceIte, Nat.reduceAdd, Nat.reduceSub, Nat.reduceMul, Nat.reduceLT, Nat.reduceLeDiff, Nat.reduceEqDiff, Nat.reduceBEq, Nat.reduceBNe, Int.reduceToNat, Int.reduceLT, Int.reduceLE, Int.reduceNeg, reduceCtorEq, Int.reduceEq, Int.reduceNe]
        exact ⟨renL_F (by simp -dsimp -implicitDefEqProofs (maxSteps := 1000000) only [go_sem, ↓reduceIte, Nat.reduceAdd, Nat.reduceSub, Nat.reduceMul, Nat.reduceLT, Nat.reduceLeDiff, Nat.reduceEqDiff, Nat.reduceBEq, Nat.reduceBNe, Int.reduceToNat, Int.reduceLT, Int.reduceLE, Int.reduceNeg, reduceCtorEq, Int.reduceEq, Int.reduceNe]), renL_F (by simp -dsimp -implicitDefEqProofs (maxSteps := 1000000) only [go_sem, ↓reduceIte, Nat.reduceAdd, Nat.reduceSub, Nat.reduceMul, Nat.reduceLT, Nat.reduceLeDiff, Nat.reduceEqDiff, Nat.reduceBEq, Nat.reduceBNe, Int.reduceToNat, Int.reduceLT, Int.reduceLE, Int.reduceNeg, reduceCtorEq, Int.reduceEq, Int.reduceNe])⟩
      · have f1 : 0 < p.getD k 0 := by omega
        have eb : boxF w h p (k + 1) = (min (boxF w h p k).1 ((k % w : Nat) : Int), min (boxF w h p k).2.1 ((k / w : Nat) : Int), max (boxF w h p k).2.2.1 ((k % w : Nat) : Int), max (boxF w h p k).2.2.2 ((k / w : Nat) : Int)) := by rw [boxF, if_neg hx0]
        simp -dsimp -implicitDefEqProofs (maxSteps := 1000000) only [go_sem, ↓reduceIte, Nat.reduceAdd, Nat.reduceSub, Nat.reduceMul, Nat.reduceLT, Nat.reduceLeDiff, Nat.reduceEqDiff, Nat.reduceBEq, Nat.reduceBNe, Int.reduceToNat, Int.reduceLT, Int.reduceLE, Int.reduceNeg, reduceCtorEq, Int.reduceEq, Int.reduceNe, tmodN, tdivN, ew, e4, f1]
        refine ⟨⟨k + 1, by omega⟩, by show p.length - (k + 1) < p.length - k; omega, Le.tl (Ls := []) (y := none) [] (by simp -dsimp -implicitDefEqProofs (maxSteps := 1000000) only [go_sem, ↓reduceIte, Nat.reduceAdd, Nat.reduceSub, Nat.reduceMul, Nat.reduceLT, Nat.reduceLeDiff, Nat.reduceEqDiff, Nat.reduceBEq, Nat.reduceBNe, Int.reduceToNat, Int.reduceLT, Int.reduceLE, Int.reduceNeg, reduceCtorEq, Int.reduceEq, Int.reduceNe, ek, eb]) ?_ (by simp) (by simp [sg]) trivial⟩
        simp -dsimp -implicitDefEqProofs (maxSteps := 1000000) only [go_sem, ↓reduceIte, Nat.reduceAdd, Nat.reduceSub, Nat.reduceMul, Nat.reduceLT, Nat.reduceLeDiff, Nat.reduceEqDiff, Nat.reduceBEq, Nat.reduceBNe, Int.reduceToNat, Int.reduceLT, Int.reduceLE, Int.reduceNeg, reduceCtorEq, Int.reduceEq, Int.reduceNe]
        exact ⟨renL_F (by simp -dsimp -implicitDefEqProofs (maxSteps := 1000000) only [go_sem, ↓reduceIte, Nat.reduceAdd, Nat.reduceSub, Nat.reduceMul, Nat.reduceLT, Nat.reduceLeDiff, Nat.reduceEqDiff, Nat.reduceBEq, Nat.reduceBNe, Int.reduceToNat, Int.reduceLT, Int.reduceLE, Int.reduceNeg, reduceCtorEq, Int.reduceEq, Int.reduceNe]), renL_F (by simp -dsimp -implicitDefEqProofs (maxSteps := 1000000) only [go_sem, ↓reduceIte, Nat.reduceAdd, Nat.reduceSub, Nat.reduceMul, Nat.reduceLT, Nat.reduceLeDiff, Nat.reduceEqDiff, Nat.reduceBEq, Nat.reduceBNe, Int.reduceToNat, Int.reduceLT, Int.reduceLE, Int.reduceNeg, reduceCtorEq, Int.reduceEq, Int.reduceNe])⟩
    · obtain rfl : k = p.length := by omega
      unfold boxE
      refine ⟨fun h => ?_, fun h => ?_⟩
      · rw [if_pos h]
      · rw [if_neg h]
  · have hc' : vaB r = false := by simpa using hc
    rw [if_neg hc]
    obtain ⟨w, h, p⟩ := r
    refine PFun.intro 400 mixed Tryd.func19 (by kernel_rfl) rfl (by first | exact .v _ | (simp [Cl_v, Cl_t, Cl_g, Cl_fn, Cl_rp, Cl_ro]; done) | (simp [Cl_v, Cl_t, Cl_g, Cl_fn, Cl_rp, Cl_ro, or_imp, forall_and]; done) | (split <;> simp [Cl_v, Cl_t, Cl_g, Cl_fn, Cl_rp, Cl_ro])) (Nat.le_of_ble_eq_true rfl) ?_; rw [Tryd.ntmps19, Tryd.results19]
    simp -dsimp -implicitDefEqProofs (maxSteps := 1000000) only [go_sem, ↓reduceIte, Nat.reduceAdd, Nat.reduceSub, Nat.reduceMul, Nat.reduceLT, Nat.reduceLeDiff, Nat.reduceEqDiff, Nat.reduceBEq, Nat.reduceBNe, Int.reduceToNat, Int.reduceLT, Int.reduceLE, Int.reduceNeg, reduceCtorEq, Int.reduceEq, Int.reduceNe]
    refine AtFn.pure0 hv ?_
    simp -dsimp -implicitDefEqProofs (maxSteps := 1000000) only [go_sem, ↓reduceIte, Nat.reduceAdd, Nat.reduceSub, Nat.reduceMul, Nat.reduceLT, Nat.reduceLeDiff, Nat.reduceEqDiff, Nat.reduceBEq, Nat.reduceBNe, Int.reduceToNat, Int.reduceLT, Int.reduceLE, Int.reduceNeg, reduceCtorEq, Int.reduceEq, Int.reduceNe, hc']
end

section
set_option maxRecDepth 20000
attribute [local go_sem] clPxT
theorem find_some {P : Nat → Bool} {n k : Nat} (hk : k < n) (h : P k = true) (hall : ∀ j, j < k → P j = false) : (List.range n).find? P = some k := by
  rw [List.find?_range_eq_some]
  exact ⟨h, by simpa using hk, fun j hj => by simp [hall j hj]⟩
theorem find_none {P : Nat → Bool} {n : Nat} (hall : ∀ j, j < n → P j = false) : (List.range n).find? P = none := by
  rw [List.find?_range_eq_none]
  exact fun j hj => by simp [hall j (by simpa using hj)]
def diffF (w : Nat) (p q : List Int) : (Int × Int) × Int :=
  match (List.range p.length).find? fun k => decide (¬ p.getD k 0 = q.getD k 0) with
  | some k => ((((k % w : Nat) : Int), ((k / w : Nat) : Int)), 0)
  | none => ((0, 0), 4)
def diffP (a b : Ra) : (Int × Int) × Int := if vaB a && vaB b then (if a.w = b.w ∧ a.h = b.h then diffF a.w.toNat a.p b.p else ((0, 0), 5)) else ((0, 0), 2)
abbrev D2 (x : (Int × Int) × Int) : AV := .t [.g [I x.1.1, I x.1.2], I x.2]
theorem clD2 (x : (Int × Int) × Int) : Cl (D2 x) := by simp [Cl_t, Cl_g, Cl_v]
theorem diff31 (a b : Ra) : PFun Tryd.prog 31 [RaA a, RaA b] (D2 (diffP a b)) := by
  have hva := valid62 a
  have hvb := valid62 b
  unfold diffP
  by_cases ha : vaB a = true
  · by_cases hb : vaB b = true
    · rw [if_pos (by rw [ha, hb]; rfl)]
      obtain ⟨w, h, p, rfl, w1, w2, h1, h2, hlen⟩ := vaR_of ha
      obtain ⟨w', h', q, rfl, w1', w2', h1', h2', hlen'⟩ := vaR_of hb
      have hN := prodN w2 h2
      simp only [Int.toNat_natCast]
      by_cases hw : (w : Int) = w'
      · by_cases hh : (h : Int) = h'
        · rw [if_pos ⟨hw, hh⟩]
          have hw : w = w' := by omega
          have hh : h = h' := by omega
          subst hw; subst hh
          have ew : ¬ (w : Int) = 0 := by omega
          have e0 : ∀ x : Int, wr x = wr x := fun _ => rfl
          refine PFun.intro 400 mixed Tryd.func31 (by kernel_rfl) rfl (clD2 _) (Nat.le_of_ble_eq_true rfl) ?_; rw [Tryd.ntmps31, Tryd.results31]
          simp -dsimp -implicitDefEqProofs (maxSteps := 1000000) only [go_sem, ↓reduceIte, Nat.reduceAdd, Nat.reduceSub, Nat.reduceMul, Nat.reduceLT, Nat.reduceLeDiff, Nat.reduceEqDiff, Nat.reduceBEq, Nat.reduceBNe, Int.reduceToNat, Int.reduceLT, Int.reduceLE, Int.reduceNeg, reduceCtorEq, Int.reduceEq, Int.reduceNe]
          refine AtFn.pure0 hva ?_
          simp -dsimp -implicitDefEqProofs (maxSteps := 1000000) only [go_sem, ↓reduceIte, Nat.reduceAdd, Nat.reduceSub, Nat.reduceMul, Nat.reduceLT, Nat.reduceLeDiff, Nat.reduceEqDiff, Nat.reduceBEq, Nat.reduceBNe, Int.reduceToNat, Int.reduceLT, Int.reduceLE, Int.reduceNeg, reduceCtorEq, Int.reduceEq, Int.reduceNe, ha]
          refine AtFn.pure0 hvb ?_
          simp -dsimp -implicitDefEqProofs (maxSteps := 1000000) only [go_sem, ↓reduceIte, Nat.reduceAdd, Nat.reduceSub, Nat.reduceMul, Nat.reduceLT, Nat.reduceLeDiff, Nat.reduceEqDiff, Nat.reduceBEq, Nat.reduceBNe, Int.reduceToNat, Int.reduceLT, Int.reduceLE, Int.reduceNeg, reduceCtorEq, Int.reduceEq, Int.reduceNe, hb, pxC_len]
          refine ⟨{k : Nat // k ≤ p.length ∧ ∀ j, j < k → p.getD j 0 = q.getD j 0}, fun k => ⟨59, tl [(2, .ptr 0 0 0), (3, .ptr 1 0 0), (4, .ptr 2 0 0), (5, I 0), (33, I p.length), (34, I k.1)], [(2, ⟨2, [[I 0, I 0]]⟩), (1, ⟨3, [[I w, I h, .ro 1 (pxC q)]]⟩), (0, ⟨3, [[I w, I h, .ro 1 (pxC p)]]⟩)], 3, .nil⟩, fun k => p.length - k.1,
            ⟨⟨0, by omega, fun j hj => absurd hj (Nat.not_lt_zero _)⟩, Le.tl (Ls := []) (y := none) [] (by simp -dsimp -implicitDefEqProofs (maxSteps := 1000000) only [go_sem, ↓reduceIte, Nat.reduceAdd, Nat.reduceSub, Nat.reduceMul, Nat.reduceLT, Nat.reduceLeDiff, Nat.reduceEqDiff, Nat.reduceBEq, Nat.reduceBNe, Int.reduceToNat, Int.reduceLT, Int.reduceLE, Int.reduceNeg, reduceCtorEq, Int.reduceEq, Int.reduceNe]) ?_ (by simp) (by simp [sg]) trivial⟩, fun k => ?_⟩
          · simp -dsimp -implicitDefEqProofs (maxSteps := 1000000) only [go_sem, ↓reduceIte, Nat.reduceAdd, Nat.reduceSub, Nat.reduceMul, Nat.reduceLT, Nat.reduceLeDiff, Nat.reduceEqDiff, Nat.reduceBEq, Nat.reduceBNe, Int.reduceToNat, Int.reduceLT, Int.reduceLE, Int.reduceNeg, reduceCtorEq, Int.reduceEq, Int.reduceNe]
            exact ⟨renL_F (by simp -dsimp -implicitDefEqProofs (maxSteps := 1000000) only [go_sem, ↓reduceIte, Nat.reduceAdd, Nat.reduceSub, Nat.reduceMul, Nat.reduceLT, Nat.reduceLeDiff, Nat.reduceEqDiff, Nat.reduceBEq, Nat.reduceBNe, Int.reduceToNat, Int.reduceLT, Int.reduceLE, Int.reduceNeg, reduceCtorEq, Int.reduceEq, Int.reduceNe]), renL_F (by simp -dsimp -implicitDefEqProofs (maxSteps := 1000000) only [go_sem, ↓reduceIte, Nat.reduceAdd, Nat.reduceSub, Nat.reduceMul, Nat.reduceLT, Nat.reduceLeDiff, Nat.reduceEqDiff, Nat.reduceBEq, Nat.reduceBNe, Int.reduceToNat, Int.reduceLT, Int.reduceLE, Int.reduceNeg, reduceCtorEq, Int.reduceEq, Int.reduceNe]), renL_F (by simp -dsimp -implicitDefEqProofs (maxSteps := 1000000) only [go_sem, ↓reduceIte, Nat.reduceAdd, Nat.reduceSub, Nat.reduceMul, Nat.reduceLT, Nat.reduceLeDiff, Nat.reduceEqDiff, Nat.reduceBEq, Nat.reduceBNe, Int.reduceToNat, Int.reduceLT, Int.reduceLE, Int.reduceNeg, reduceCtorEq, Int.reduceEq, Int.reduceNe])⟩
          obtain ⟨k, hk, hall⟩ := k
          simp -dsimp -implicitDefEqProofs (maxSteps := 1000000) only [go_sem, ↓reduceIte, Nat.reduceAdd, Nat.reduceSub, Nat.reduceMul, Nat.reduceLT, Nat.reduceLeDiff, Nat.reduceEqDiff, Nat.reduceBEq, Nat.reduceBNe, Int.reduceToNat, Int.reduceLT, Int.reduceLE, Int.reduceNeg, reduceCtorEq, Int.reduceEq, Int.reduceNe]
          refine ⟨fun hk' => ?_, fun hout => ?_⟩
          · have hkl : k < p.length := by omega
            have ek := wrA1 (a := k) (by omega)
            have g1 := getD_some hkl
            have g2 := getD_some (p := q) (k := k) (by omega)
            have c2 : ((k : Nat) : Int) < (q.length : Int) := by omega
            have hq : k / w ≤ k := Nat.div_le_self _ _
            have e4 : wr ((k / w : Nat) : Int) = ((k / w : Nat) : Int) := wrN (by omega)
            refine AtCode.draw 11 [([], []), ([0], []), ([], []), ([0, 1, 2], []), ([0, 1, 2, 3], []), ([], []), ([5], []), ([], []), ([5, 6, 7], []), ([5, 6, 7, 8], []), ([0, 1, 2, 3, 4, 5, 6, 7, 8, 9], [])] (by kernel_rfl) ?_
            by_cases hx : p.getD k 0 = q.getD k 0
            · simp -dsimp -implicitDefEqProofs (maxSteps := 1000000) only [go_sem, ↓reduceIte, Nat.reduceAdd, Nat.reduceSub, Nat.reduceMul, Nat.reduceLT, Nat.reduceLeDiff, Nat.reduceEqDiff, Nat.reduceBEq, Nat.reduceBNe, Int.reduceToNat, Int.reduceLT, Int.reduceLE, Int.reduceNeg, reduceCtorEq, Int.reduceEq, Int.reduceNe, pxC_get, pxC_len, g1, g2, c2, hk', Int.natCast_nonneg, Int.toNat_natCast, Nat.zero_add, hx]
              refine ⟨⟨k + 1, by omega, fun j hj => ?_⟩, by show p.length - (k + 1) < p.length - k; omega, Le.tl (Ls := []) (y := none) [] (by simp -dsimp -implicitDefEqProofs (maxSteps := 1000000) only [go_sem, ↓reduceIte, Nat.reduceAdd, Nat.reduceSub, Nat.reduceMul, Nat.reduceLT, Nat.reduceLeDiff, Nat.reduceEqDiff, Nat.reduceBEq, Nat.reduceBNe, Int.reduceToNat, Int.reduceLT, Int.reduceLE, Int.reduceNeg, reduceCtorEq, Int.reduceEq, Int.reduceNe, ek]) ?_ (by simp) (by simp [sg]) trivial⟩
              · rcases Nat.lt_or_ge j k with h | h
                · exact hall j h
                · rw [show j = k by omega]; exact hx
              · simp -dsimp -implicitDefEqProofs (maxSteps := 1000000) only [go_sem, ↓reduceIte, Nat.reduceAdd, Nat.reduceSub, Nat.reduceMul, Nat.reduceLT, Nat.reduceLeDiff, Nat.reduceEqDiff, Nat.reduceBEq, Nat.reduceBNe, Int.reduceToNat, Int.reduceLT, Int.reduceLE, Int.reduceNeg, reduceCtorEq, Int.reduceEq, Int.reduceNe]
                exact ⟨renL_F (by simp -dsimp -implicitDefEqProofs (maxSteps := 1000000) only [go_sem, ↓reduceIte, Nat.reduceAdd, Nat.reduceSub, Nat.reduceMul, Nat.reduceLT, Nat.reduceLeDiff, Nat.reduceEqDiff, Nat.reduceBEq, Nat.reduceBNe, Int.reduceToNat, Int.reduceLT, Int.reduceLE, Int.reduceNeg, reduceCtorEq, Int.reduceEq, Int.reduceNe]), renL_F (by simp -dsimp -implicitDefEqProofs (maxSteps := 1000000) only [go_sem, ↓reduceIte, Nat.reduceAdd, Nat.reduceSub, Nat.reduceMul, Nat.reduceLT, Nat.reduceLeDiff, Nat.reduceEqDiff, Nat.reduceBEq, Nat.reduceBNe, Int.reduceToNat, Int.reduceLT, Int.reduceLE, Int.reduceNeg, reduceCtorEq, Int.reduceEq, Int.reduceNe]), renL_F (by simp -dsimp -implicitDefEqProofs (maxSteps := 1000000) only [go_sem, ↓reduceIte, Nat.reduceAdd, Nat.reduceSub, Nat.reduceMul, Nat.reduceLT, Nat.reduceLeDiff, Nat.reduceEqDiff, Nat.reduceBEq, Nat.reduceBNe, Int.reduceToNat, Int.reduceLT, Int.reduceLE, Int.reduceNeg, reduceCtorEq, Int.reduceEq, Int.reduceNe])⟩
            · have hf : diffF w p q = ((((k % w : Nat) : Int), ((k / w : Nat) : Int)), 0) := by
                unfold diffF
                rw [find_some hkl (by simpa using hx) (fun j hj => by simpa using hall j hj)]
              rw [hf]
              simp -dsimp -implicitDefEqProofs (maxSteps := 1000000) only [go_sem, ↓reduceIte, Nat.reduceAdd, Nat.reduceSub, Nat.reduceMul, Nat.reduceLT, Nat.reduceLeDiff, Nat.reduceEqDiff, Nat.reduceBEq, Nat.reduceBNe, Int.reduceToNat, Int.reduceLT, Int.reduceLE, Int.reduceNeg, reduceCtorEq, Int.reduceEq, Int.reduceNe, pxC_get, pxC_len, g1, g2, c2, hk', Int.natCast_nonneg, Int.toNat_natCast, Nat.zero_add, hx]
              refine AtCode.draw 9 [([], []), ([], []), ([1], []), ([0, 1, 2], []), ([], []), ([], []), ([5], []), ([4, 5, 6], []), ([0, 1, 2, 3, 4, 5, 6, 7], []), ([0, 1, 2, 3, 4, 5, 6, 7, 8], []), ([0, 1, 2, 3, 4, 5, 6, 7, 8, 9], [])] (by kernel_rfl) ?_
              simp -dsimp -implicitDefEqProofs (maxSteps := 1000000) only [go_sem, ↓reduceIte, Nat.reduceAdd, Nat.reduceSub, Nat.reduceMul, Nat.reduceLT, Nat.reduceLeDiff, Nat.reduceEqDiff, Nat.reduceBEq, Nat.reduceBNe, Int.reduceToNat, Int.reduceLT, Int.reduceLE, Int.reduceNeg, reduceCtorEq, Int.reduceEq, Int.reduceNe, tmodN, tdivN, ew, e4]
          · have hkp : k = p.length := by omega
            have hf : diffF w p q = ((0, 0), 4) := by
              unfold diffF
              rw [find_none (fun j hj => by simpa using hall j (by omega))]
            rw [hf]
        · rw [if_neg (fun h => hh h.2)]
          refine PFun.intro 400 mixed Tryd.func31 (by kernel_rfl) rfl (by first | exact .v _ | (simp [Cl_v, Cl_t, Cl_g, Cl_fn, Cl_rp, Cl_ro]; done) | (simp [Cl_v, Cl_t, Cl_g, Cl_fn, Cl_rp, Cl_ro, or_imp, forall_and]; done) | (split <;> simp [Cl_v, Cl_t, Cl_g, Cl_fn, Cl_rp, Cl_ro])) (Nat.le_of_ble_eq_true rfl) ?_; rw [Tryd.ntmps31, Tryd.results31]
          simp -dsimp -implicitDefEqProofs (maxSteps := 1000000) only [go_sem, ↓reduceIte, Nat.reduceAdd, Nat.reduceSub, Nat.reduceMul, Nat.reduceLT, Nat.reduceLeDiff, Nat.reduceEqDiff, Nat.reduceBEq, Nat.reduceBNe, Int.reduceToNat, Int.reduceLT, Int.reduceLE, Int.reduceNeg, reduceCtorEq, Int.reduceEq, Int.reduceNe]
          refine AtFn.pure0 hva ?_
          simp -dsimp -implicitDefEqProofs (maxSteps := 1000000) only [go_sem, ↓reduceIte, Nat.reduceAdd, Nat.reduceSub, Nat.reduceMul, Nat.reduceLT, Nat.reduceLeDiff, Nat.reduceEqDiff, Nat.reduceBEq, Nat.reduceBNe, Int.reduceToNat, Int.reduceLT, Int.reduceLE, Int.reduceNeg, reduceCtorEq, Int.reduceEq, Int.reduceNe, ha]
          refine AtFn.pure0 hvb ?_
          simp -dsimp -implicitDefEqProofs (maxSteps := 1000000) only [go_sem, ↓reduceIte, Nat.reduceAdd, Nat.reduceSub, Nat.reduceMul, Nat.reduceLT, Nat.reduceLeDiff, Nat.reduceEqDiff, Nat.reduceBEq, Nat.reduceBNe, Int.reduceToNat, Int.reduceLT, Int.reduceLE, Int.reduceNeg, reduceCtorEq, Int.reduceEq, Int.reduceNe, hb, hw, hh]
      · rw [if_neg (fun h => hw h.1)]
        refine PFun.intro 400 mixed Tryd.func31 (by kernel_rfl) rfl (by first | exact .v _ | (simp [Cl_v, Cl_t, Cl_g, Cl_fn, Cl_rp, Cl_ro]; done) | (simp [Cl_v, Cl_t, Cl_g, Cl_fn, Cl_rp, Cl_ro, or_imp, forall_and]; done) | (split <;> simp [Cl_v, Cl_t, Cl_g, Cl_fn, Cl_rp, Cl_ro])) (Nat.le_of_ble_eq_true rfl) ?_; rw [Tryd.ntmps31, Tryd.results31]
        simp -dsimp -implicitDefEqProofs (maxSteps := 1000000) only [go_sem, ↓reduceIte, Nat.reduceAdd, Nat.reduceSub, Nat.reduceMul, Nat.reduceLT, Nat.reduceLeDiff, Nat.reduceEqDiff, Nat.reduceBEq, Nat.reduceBNe, Int.reduceToNat, Int.reduceLT, Int.reduceLE, Int.reduceNeg, reduceCtorEq, Int.reduceEq, Int.reduceNe]
        refine AtFn.pure0 hva ?_
        simp -dsimp -implicitDefEqProofs (maxSteps := 1000000) only [go_sem, ↓reduceIte, Nat.reduceAdd, Nat.reduceSub, Nat.reduceMul, Nat.reduceLT, Nat.reduceLeDiff, Nat.reduceEqDiff, Nat.reduceBEq, Nat.reduceBNe, Int.reduceToNat, Int.reduceLT, Int.reduceLE, Int.reduceNeg, reduceCtorEq, Int.reduceEq, Int.reduceNe, ha]
        refine AtFn.pure0 hvb ?_
        simp -dsimp -implicitDefEqProofs (maxSteps := 1000000) only [go_sem, ↓reduceIte, Nat.reduceAdd, Nat.reduceSub, Nat.reduceMul, Nat.reduceLT, Nat.reduceLeDiff, Nat.reduceEqDiff, Nat.reduceBEq, Nat.reduceBNe, Int.reduceToNat, Int.reduceLT, Int.reduceLE, Int.reduceNeg, reduceCtorEq, Int.reduceEq, Int.reduceNe, hb, hw]
    · have hb : vaB b = false := by simpa using hb
      rw [if_neg (by rw [ha, hb]; simp)]
      obtain ⟨w, h, p⟩ := a
      obtain ⟨w', h', q⟩ := b
      refine PFun.intro 400 mixed Tryd.func31 (by kernel_rfl) rfl (by first | exact .v _ | (simp [Cl_v, Cl_t, Cl_g, Cl_fn, Cl_rp, Cl_ro]; done) | (simp [Cl_v, Cl_t, Cl_g, Cl_fn, Cl_rp, Cl_ro, or_imp, forall_and]; done) | (split <;> simp [Cl_v, Cl_t, Cl_g, Cl_fn, Cl_rp, Cl_ro])) (Nat.le_of_ble_eq_true rfl) ?_; rw [Tryd.ntmps31, Tryd.results31]
      simp -dsimp -implicitDefEqProofs (maxSteps := 1000000) only [go_sem, ↓reduceIte, Nat.reduceAdd, Nat.reduceSub, Nat.reduceMul, Nat.reduceLT, Nat.reduceLeDiff, Nat.reduceEqDiff, Nat.reduceBEq, Nat.reduceBNe, Int.reduceToNat, Int.reduceLT, Int.reduceLE, Int.reduceNeg, reduceCtorEq, Int.reduceEq, Int.reduceNe]
      refine AtFn.pure0 hva ?_
      simp -dsimp -implicitDefEqProofs (maxSteps := 1000000) only [go_sem, ↓reduceIte, Nat.reduceAdd, Nat.reduceSub, Nat.reduceMul, Nat.reduceLT, Nat.reduceLeDiff, Nat.reduceEqDiff, Nat.reduceBEq, Nat.reduceBNe, Int.reduceToNat, Int.reduceLT, Int.reduceLE, Int.reduceNeg, reduceCtorEq, Int.reduceEq, Int.reduceNe, ha]
      refine AtFn.pure0 hvb ?_
      simp -dsimp -implicitDefEqProofs (maxSteps := 1000000) only [go_sem, ↓reduceIte, Nat.reduceAdd, Nat.reduceSub, Nat.reduceMul, Nat.reduceLT, Nat.reduceLeDiff, Nat.reduceEqDiff, Nat.reduceBEq, Nat.reduceBNe, Int.reduceToNat, Int.reduceLT, Int.reduceLE, Int.reduceNeg, reduceCtorEq, Int.reduceEq, Int.reduceNe, hb]
  · have ha : vaB a = false := by simpa using ha
    rw [if_neg (by rw [ha]; simp)]
    obtain ⟨w, h, p⟩ := a
    obtain ⟨w', h', q⟩ := b
    refine PFun.intro 400 mixed Tryd.func31 (by kernel_rfl) rfl (by first | exact .v _ | (simp [Cl_v, Cl_t, Cl_g, Cl_fn, Cl_rp, Cl_ro]; done) | (simp [Cl_v, Cl_t, Cl_g, Cl_fn, Cl_rp, Cl_ro, or_imp, forall_and]; done) | (split <;> simp [Cl_v, Cl_t, Cl_g, Cl_fn, Cl_rp, Cl_ro])) (Nat.le_of_ble_eq_true rfl) ?_; rw [Tryd.ntmps31, Tryd.results31]
    simp -dsimp -implicitDefEqProofs (maxSteps := 1000000) only [go_sem, ↓reduceIte, Nat.reduceAdd, Nat.reduceSub, Nat.reduceMul, Nat.reduceLT, Nat.reduceLeDiff, Nat.reduceEqDiff, Nat.reduceBEq, Nat.reduceBNe, Int.reduceToNat, Int.reduceLT, Int.reduceLE, Int.reduceNeg, reduceCtorEq, Int.reduceEq, Int.reduceNe]
    refine AtFn.pure0 hva ?_
    simp -dsimp -implicitDefEqProofs (maxSteps := 1000000) only [go_sem, ↓reduceIte, Nat.reduceAdd, Nat.reduceSub, Nat.reduceMul, Nat.reduceLT, Nat.reduceLeDiff, Nat.reduceEqDiff, Nat.reduceBEq, Nat.reduceBNe, Int.reduceToNat, Int.reduceLT, Int.reduceLE, Int.reduceNeg, reduceCtorEq, Int.reduceEq, Int.reduceNe, ha]
end

section
set_option maxRecDepth 20000
attribute [local go_sem] clPxT
abbrev rnC (r : Int × Int) : List AV := [I r.1, I r.2]
theorem clRn (l : List (Int × Int)) : ∀ c ∈ l.map rnC, ∀ s ∈ c, Cl s := fun c hc s hs => by
  obtain ⟨r, _, rfl⟩ := List.mem_map.1 hc
  simp at hs
  rcases hs with rfl | rfl <;> exact .v _
def runStep (out : List (Int × Int)) (x : Int) : List (Int × Int) :=
  match out.getLast? with
  | some r => if r.1 = x then out.dropLast ++ [(r.1, r.2 + 1)] else out ++ [(x, 1)]
  | none => [(x, 1)]
def runsL (l : List Int) : List (Int × Int) := l.foldl runStep []
def runP (r : Ra) (j : Int) : List (Int × Int) × Int :=
  if vaB r then (if 0 ≤ j ∧ j < r.h then (runsL ((r.p.drop (j.toNat * r.w.toNat)).take r.w.toNat), 0) else ([], 17)) else ([], 2)
abbrev RnA (x : List (Int × Int) × Int) : AV := .t [.ro 2 (x.1.map rnC), I x.2]
theorem clRnA (x : List (Int × Int) × Int) : Cl (RnA x) := .t2 (.ro (clRn _)) (.v _)
theorem runStep_nil (x : Int) : runStep [] x = [(x, 1)] := rfl
theorem runStep_eq (D : List (Int × Int)) (v c x : Int) (h : v = x) : runStep (D ++ [(v, c)]) x = D ++ [(v, c + 1)] := by
  unfold runStep
  simp [h]
theorem runStep_ne (D : List (Int × Int)) (v c x : Int) (h : ¬ v = x) : runStep (D ++ [(v, c)]) x = D ++ [(v, c)] ++ [(x, 1)] := by
  unfold runStep
  simp [h]
theorem runs_snoc {l : List Int} {k : Nat} {x : Int} (h : l[k]? = some x) : runsL (l.take (k + 1)) = runStep (runsL (l.take k)) x := by
  unfold runsL
  rw [List.take_add_one, h, List.foldl_append]; rfl
theorem runs_bd : ∀ (l : List Int) (out : List (Int × Int)) (n : Nat), (∀ r ∈ out, 1 ≤ r.2 ∧ r.2 ≤ n) → ∀ r ∈ l.foldl runStep out, 1 ≤ r.2 ∧ r.2 ≤ ((n + l.length : Nat) : Int)
  | [], out, n, h, r, hr => by simpa using h r hr
  | x :: l, out, n, h, r, hr => by
    rw [List.foldl_cons] at hr
    have := runs_bd l (runStep out x) (n + 1) ?_ r hr
    · rw [List.length_cons]; omega
    · intro q hq
      rcases List.eq_nil_or_concat out with rfl | ⟨D, ⟨v, c⟩, rfl⟩
      · rw [runStep_nil] at hq; rw [List.mem_singleton.1 hq]; simp only; omega
      · rw [List.concat_eq_append] at *
        have hl := h (v, c) (by simp)
        by_cases hv : v = x
        · rw [runStep_eq D v c x hv] at hq
          rcases List.mem_append.1 hq with hq | hq
          · have := h q (by simp [hq]); omega
          · rw [List.mem_singleton.1 hq]; simp only at hl ⊢; omega
        · rw [runStep_ne D v c x hv] at hq
          rcases List.mem_append.1 hq with hq | hq
          · have := h q hq; omega
          · rw [List.mem_singleton.1 hq]; simp only; omega
theorem runs_len : ∀ (l : List Int) (out : List (Int × Int)), (l.foldl runStep out).length ≤ out.length + l.length
  | [], out => by simp
  | x :: l, out => by
    rw [List.foldl_cons]
    have := runs_len l (runStep out x)
    have h2 : (runStep out x).length ≤ out.length + 1 := by
      unfold runStep
      split
      · rename_i r hr
        have hne : out ≠ [] := by intro e; subst e; simp at hr
        have : 0 < out.length := List.length_pos_iff.2 hne
        split
        · simp; try omega
        · simp
      · simp
    rw [List.length_cons]; omega
theorem runs24 (r : Ra) (j : Int) (hok : okP r.p) : PFun Tryd.prog 24 [RaA r, I j] (RnA (runP r j)) := by
  have hv := valid62 r
  unfold runP
  by_cases hc : vaB r = true
  · rw [if_pos hc]
    obtain ⟨w, h, p, rfl, w1, w2, h1, h2, hlen⟩ := vaR_of hc
    have hN := prodN w2 h2
    by_cases hj : 0 ≤ j ∧ j < ((h : Nat) : Int)
    · rw [if_pos hj]
      obtain ⟨j, rfl⟩ := Int.eq_ofNat_of_zero_le hj.1
      have hjl : j < h := by omega
      show PFun Tryd.prog 24 [RaA ⟨w, h, p⟩, I (j : Int)] (RnA (runsL ((p.drop (j * w)).take w), 0))
      obtain ⟨row, hrow⟩ : ∃ row, row = (p.drop (j * w)).take w := ⟨_, rfl⟩
      rw [← hrow]
      have hjw : j * w + w ≤ w * h := by
        have : (j + 1) * w ≤ h * w := Nat.mul_le_mul_right _ hjl
        rw [Nat.succ_mul, Nat.mul_comm h w] at this; exact this
      have hrl : row.length = w := by rw [hrow, List.length_take, List.length_drop, hlen]; omega
      have hrp : List.drop (j * w) (List.take ((j + 1) * w) (pxC p)) = pxC row := by
        rw [hrow]; unfold pxC
        rw [← List.map_take, ← List.map_drop, List.drop_take, Nat.succ_mul, show j * w + w - j * w = w by omega]
      have r0 : runsL [] = [] := rfl
      have f1 : ¬ (j : Int) < 0 := by omega
      have f2 : ¬ (h : Int) ≤ j := by omega
      have b1 := wrM (a := j) (b := w) (by omega)
      have b2 := wrA1 (a := j) (by omega)
      have b3 := wrM (a := j + 1) (b := w) (by rw [Nat.succ_mul]; omega)
      have c1 : j * w ≤ (j + 1) * w := by rw [Nat.succ_mul]; omega
      have c2 : (j + 1) * w ≤ p.length := by rw [Nat.succ_mul, hlen]; exact hjw
      have hokr : okP row := fun x hx => by
        rw [hrow] at hx
        exact hok x (List.mem_of_mem_drop (List.mem_of_mem_take hx))
      refine PFun.intro 400 mixed Tryd.func24 (by kernel_rfl) rfl (clRnA _) (Nat.le_of_ble_eq_true rfl) ?_; rw [Tryd.ntmps24, Tryd.results24]
      simp -dsimp -implicitDefEqProofs (maxSteps := 1000000) only [go_sem, ↓reduceIte, Nat.reduceAdd, Nat.reduceSub, Nat.reduceMul, Nat.reduceLT, Nat.reduceLeDiff, Nat.reduceEqDiff, Nat.reduceBEq, Nat.reduceBNe, Int.reduceToNat, Int.reduceLT, Int.reduceLE, Int.reduceNeg, reduceCtorEq, Int.reduceEq, Int.reduceNe]
      refine AtFn.pure0 hv ?_
      simp -dsimp -implicitDefEqProofs (maxSteps := 1000000) only [go_sem, ↓reduceIte, Nat.reduceAdd, Nat.reduceSub, Nat.reduceMul, Nat.reduceLT, Nat.reduceLeDiff, Nat.reduceEqDiff, Nat.reduceBEq, Nat.reduceBNe, Int.reduceToNat, Int.reduceLT, Int.reduceLE, Int.reduceNeg, reduceCtorEq, Int.reduceEq, Int.reduceNe, hc, f1, f2, b1, b2, b3, c1, c2, pxC_len, hrp, hrl, Int.natCast_nonneg, Int.toNat_natCast]
      refine ⟨{k : Nat // k ≤ w}, fun k => ⟨72, tl [(2, .ptr 0 0 0), (6, .sl 1 0 (runsL (row.take k.1)).length), (34, .ro 1 (pxC row)), (35, I w), (36, I k.1)], [(0, ⟨3, [[I w, I h, .ro 1 (pxC p)]]⟩), (1, ⟨2, (runsL (row.take k.1)).map rnC⟩)], 2, .nil⟩, fun k => w - k.1,
        ⟨⟨0, by omega⟩, Le.tl0 (Ls := []) (y := none) [] ?_ ?_ (by simp) (by simp [sg]) trivial⟩, fun k => ?_⟩
      · simp -dsimp -implicitDefEqProofs (maxSteps := 1000000) only [go_sem, ↓reduceIte, Nat.reduceAdd, Nat.reduceSub, Nat.reduceMul, Nat.reduceLT, Nat.reduceLeDiff, Nat.reduceEqDiff, Nat.reduceBEq, Nat.reduceBNe, Int.reduceToNat, Int.reduceLT, Int.reduceLE, Int.reduceNeg, reduceCtorEq, Int.reduceEq, Int.reduceNe, List.take_zero, r0, List.length_nil]
      · simp -dsimp -implicitDefEqProofs (maxSteps := 1000000) only [go_sem, ↓reduceIte, Nat.reduceAdd, Nat.reduceSub, Nat.reduceMul, Nat.reduceLT, Nat.reduceLeDiff, Nat.reduceEqDiff, Nat.reduceBEq, Nat.reduceBNe, Int.reduceToNat, Int.reduceLT, Int.reduceLE, Int.reduceNeg, reduceCtorEq, Int.reduceEq, Int.reduceNe, List.take_zero, r0, List.map_nil]
        exact renL_F (by simp -dsimp -implicitDefEqProofs (maxSteps := 1000000) only [go_sem, ↓reduceIte, Nat.reduceAdd, Nat.reduceSub, Nat.reduceMul, Nat.reduceLT, Nat.reduceLeDiff, Nat.reduceEqDiff, Nat.reduceBEq, Nat.reduceBNe, Int.reduceToNat, Int.reduceLT, Int.reduceLE, Int.reduceNeg, reduceCtorEq, Int.reduceEq, Int.reduceNe])
      obtain ⟨k, hk⟩ := k
      simp -dsimp -implicitDefEqProofs (maxSteps := 1000000) only [go_sem, ↓reduceIte, Nat.reduceAdd, Nat.reduceSub, Nat.reduceMul, Nat.reduceLT, Nat.reduceLeDiff, Nat.reduceEqDiff, Nat.reduceBEq, Nat.reduceBNe, Int.reduceToNat, Int.reduceLT, Int.reduceLE, Int.reduceNeg, reduceCtorEq, Int.reduceEq, Int.reduceNe, pxC_len, hrl]
      refine ⟨fun hk' => ?_, fun hout => ?_⟩
      · have hkl : k < w := by omega
        have ek := wrA1 (a := k) (by omega)
        obtain ⟨x, hx⟩ : ∃ x, row[k]? = some x := ⟨_, List.getElem?_eq_getElem (by omega)⟩
        have hxb := hokr x (List.mem_of_getElem? hx)
        have ex : wr x = x := wr_in (by omega) (by omega)
        have hsn := runs_snoc hx
        have hbd := runs_bd (row.take k) [] 0 (by simp)
        have hln := runs_len (row.take k) []
        obtain ⟨out, hout⟩ : ∃ out, out = runsL (row.take k) := ⟨_, rfl⟩
        rw [show (row.take k).foldl runStep [] = out from hout.symm] at hbd hln
        rw [← hout] at hsn ⊢
        rw [List.length_take] at hbd hln
        simp only [List.length_nil] at hln
        rcases List.eq_nil_or_concat out with hnil | ⟨D, ⟨v, c⟩, hcat⟩
        · subst hnil
          simp -dsimp -implicitDefEqProofs (maxSteps := 1000000) only [go_sem, ↓reduceIte, Nat.reduceAdd, Nat.reduceSub, Nat.reduceMul, Nat.reduceLT, Nat.reduceLeDiff, Nat.reduceEqDiff, Nat.reduceBEq, Nat.reduceBNe, Int.reduceToNat, Int.reduceLT, Int.reduceLE, Int.reduceNeg, reduceCtorEq, Int.reduceEq, Int.reduceNe, hx, pxC_get, Int.natCast_nonneg, Int.toNat_natCast, Nat.zero_add, hk', List.length_nil, List.map_nil, ex]
          refine ⟨⟨k + 1, by omega⟩, by show w - (k + 1) < w - k; omega, Le.tl (Ls := []) (y := none) [(1, 3)] ?_ ?_ (by simp) (by simp [sg]) trivial⟩
          · simp -dsimp -implicitDefEqProofs (maxSteps := 1000000) only [go_sem, ↓reduceIte, Nat.reduceAdd, Nat.reduceSub, Nat.reduceMul, Nat.reduceLT, Nat.reduceLeDiff, Nat.reduceEqDiff, Nat.reduceBEq, Nat.reduceBNe, Int.reduceToNat, Int.reduceLT, Int.reduceLE, Int.reduceNeg, reduceCtorEq, Int.reduceEq, Int.reduceNe, ek, hsn, runStep_nil]
          · simp -dsimp -implicitDefEqProofs (maxSteps := 1000000) only [go_sem, ↓reduceIte, Nat.reduceAdd, Nat.reduceSub, Nat.reduceMul, Nat.reduceLT, Nat.reduceLeDiff, Nat.reduceEqDiff, Nat.reduceBEq, Nat.reduceBNe, Int.reduceToNat, Int.reduceLT, Int.reduceLE, Int.reduceNeg, reduceCtorEq, Int.reduceEq, Int.reduceNe, hsn, runStep_nil]
            exact ⟨renL_F (by simp -dsimp -implicitDefEqProofs (maxSteps := 1000000) only [go_sem, ↓reduceIte, Nat.reduceAdd, Nat.reduceSub, Nat.reduceMul, Nat.reduceLT, Nat.reduceLeDiff, Nat.reduceEqDiff, Nat.reduceBEq, Nat.reduceBNe, Int.reduceToNat, Int.reduceLT, Int.reduceLE, Int.reduceNeg, reduceCtorEq, Int.reduceEq, Int.reduceNe]), renL_F (by simp -dsimp -implicitDefEqProofs (maxSteps := 1000000) only [go_sem, ↓reduceIte, Nat.reduceAdd, Nat.reduceSub, Nat.reduceMul, Nat.reduceLT, Nat.reduceLeDiff, Nat.reduceEqDiff, Nat.reduceBEq, Nat.reduceBNe, Int.reduceToNat, Int.reduceLT, Int.reduceLE, Int.reduceNeg, reduceCtorEq, Int.reduceEq, Int.reduceNe])⟩
        · rw [List.concat_eq_append] at hcat
          subst hcat
          have hc2 := hbd (v, c) (by simp)
          simp only at hc2
          have hDl : (D ++ [(v, c)]).length = D.length + 1 := by simp
          rw [hDl] at hln
          have d1 := wrS1 (a := D.length + 1) (by omega) (by omega)
          rw [Nat.add_sub_cancel] at d1
          have d2 : (0 : Int) < ((D.length + 1 : Nat) : Int) := by omega
          have d3 : ((D.length : Nat) : Int) < ((D.length + 1 : Nat) : Int) := by omega
          have hML : (List.map rnC (D ++ [(v, c)])).length = D.length + 1 := by rw [List.length_map, hDl]
          have hTA : takeA 0 (D.length + 1) (List.map rnC (D ++ [(v, c)])) = List.map rnC (D ++ [(v, c)]) := by rw [takeA, if_pos ⟨rfl, hML.symm⟩]
          have g1 : (List.map rnC (D ++ [(v, c)]))[D.length]? = some [I v, I c] := by
            rw [List.getElem?_map, List.getElem?_append_right (Nat.le_refl _), Nat.sub_self]; rfl
          by_cases hv : v = x
          · subst hv
            have ec : wr (c + 1) = c + 1 := wr_in (by omega) (by omega)
            have hset : (List.map rnC (D ++ [(v, c)])).set D.length [I v, I (c + 1)] = List.map rnC (D ++ [(v, c + 1)]) := by
              rw [List.map_append, List.set_append_right _ _ (by simp), List.length_map, Nat.sub_self]; simp
            rw [runStep_eq D v c v rfl] at hsn
            simp -dsimp -implicitDefEqProofs (maxSteps := 1000000) only [go_sem, ↓reduceIte, Nat.reduceAdd, Nat.reduceSub, Nat.reduceMul, Nat.reduceLT, Nat.reduceLeDiff, Nat.reduceEqDiff, Nat.reduceBEq, Nat.reduceBNe, Int.reduceToNat, Int.reduceLT, Int.reduceLE, Int.reduceNeg, reduceCtorEq, Int.reduceEq, Int.reduceNe, hx, pxC_get, Int.natCast_nonneg, Int.toNat_natCast, Nat.zero_add, hk', hDl, ex, d1, d2, d3, g1]
            refine AtCode.draw 9 [([], []), ([], []), ([1], []), ([0, 1, 2], []), ([0, 1, 2, 3], []), ([0, 1, 2, 3, 4], []), ([0, 1, 2, 3, 4, 5], []), ([0, 1, 2], []), ([0, 1, 2, 3, 4, 5, 6, 7], []), ([0, 1, 2, 3, 4, 5, 6, 7, 8], [])] (by kernel_rfl) ?_
            simp -dsimp -implicitDefEqProofs (maxSteps := 1000000) only [go_sem, ↓reduceIte, Nat.reduceAdd, Nat.reduceSub, Nat.reduceMul, Nat.reduceLT, Nat.reduceLeDiff, Nat.reduceEqDiff, Nat.reduceBEq, Nat.reduceBNe, Int.reduceToNat, Int.reduceLT, Int.reduceLE, Int.reduceNeg, reduceCtorEq, Int.reduceEq, Int.reduceNe, hx, pxC_get, Int.natCast_nonneg, Int.toNat_natCast, Nat.zero_add, hk', hDl, ex, d1, d2, d3, g1, ec]
            refine ⟨⟨k + 1, by omega⟩, by show w - (k + 1) < w - k; omega, Le.tl (Ls := []) (y := none) [] ?_ ?_ (by simp) (by simp [sg]) trivial⟩
            · simp -dsimp -implicitDefEqProofs (maxSteps := 1000000) only [go_sem, ↓reduceIte, Nat.reduceAdd, Nat.reduceSub, Nat.reduceMul, Nat.reduceLT, Nat.reduceLeDiff, Nat.reduceEqDiff, Nat.reduceBEq, Nat.reduceBNe, Int.reduceToNat, Int.reduceLT, Int.reduceLE, Int.reduceNeg, reduceCtorEq, Int.reduceEq, Int.reduceNe, ek, hsn, List.length_append, List.length_singleton, List.length_cons, List.length_nil]
            · simp -dsimp -implicitDefEqProofs (maxSteps := 1000000) only [go_sem, ↓reduceIte, Nat.reduceAdd, Nat.reduceSub, Nat.reduceMul, Nat.reduceLT, Nat.reduceLeDiff, Nat.reduceEqDiff, Nat.reduceBEq, Nat.reduceBNe, Int.reduceToNat, Int.reduceLT, Int.reduceLE, Int.reduceNeg, reduceCtorEq, Int.reduceEq, Int.reduceNe, hsn]
              exact ⟨renL_F (by simp -dsimp -implicitDefEqProofs (maxSteps := 1000000) only [go_sem, ↓reduceIte, Nat.reduceAdd, Nat.reduceSub, Nat.reduceMul, Nat.reduceLT, Nat.reduceLeDiff, Nat.reduceEqDiff, Nat.reduceBEq, Nat.reduceBNe, Int.reduceToNat, Int.reduceLT, Int.reduceLE, Int.reduceNeg, reduceCtorEq, Int.reduceEq, Int.reduceNe]), renL_cl2 hset (clRn _)⟩
          · rw [runStep_ne D v c x hv] at hsn
            simp -dsimp -implicitDefEqProofs (maxSteps := 1000000) only [go_sem, ↓reduceIte, Nat.reduceAdd, Nat.reduceSub, Nat.reduceMul, Nat.reduceLT, Nat.reduceLeDiff, Nat.reduceEqDiff, Nat.reduceBEq, Nat.reduceBNe, Int.reduceToNat, Int.reduceLT, Int.reduceLE, Int.reduceNeg, reduceCtorEq, Int.reduceEq, Int.reduceNe, hx, pxC_get, Int.natCast_nonneg, Int.toNat_natCast, Nat.zero_add, hk', hDl, ex, d1, d2, d3, g1, hv, hML, hTA, ex]
            refine ⟨Nat.le_refl _, by omega, ⟨k + 1, by omega⟩, by show w - (k + 1) < w - k; omega, Le.tl (Ls := []) (y := none) [(1, 3)] ?_ ?_ (by simp) (by simp [sg]) trivial⟩
            · simp -dsimp -implicitDefEqProofs (maxSteps := 1000000) only [go_sem, ↓reduceIte, Nat.reduceAdd, Nat.reduceSub, Nat.reduceMul, Nat.reduceLT, Nat.reduceLeDiff, Nat.reduceEqDiff, Nat.reduceBEq, Nat.reduceBNe, Int.reduceToNat, Int.reduceLT, Int.reduceLE, Int.reduceNeg, reduceCtorEq, Int.reduceEq, Int.reduceNe, ek, hsn, List.length_append, List.length_singleton, List.length_cons, List.length_nil]
              exact hML
            · simp -dsimp -implicitDefEqProofs (maxSteps := 1000000) only [go_sem, ↓reduceIte, Nat.reduceAdd, Nat.reduceSub, Nat.reduceMul, Nat.reduceLT, Nat.reduceLeDiff, Nat.reduceEqDiff, Nat.reduceBEq, Nat.reduceBNe, Int.reduceToNat, Int.reduceLT, Int.reduceLE, Int.reduceNeg, reduceCtorEq, Int.reduceEq, Int.reduceNe, hsn]
              exact ⟨renL_F (by simp -dsimp -implicitDefEqProofs (maxSteps := 1000000) only [go_sem, ↓reduceIte, Nat.reduceAdd, Nat.reduceSub, Nat.reduceMul, Nat.reduceLT, Nat.reduceLeDiff, Nat.reduceEqDiff, Nat.reduceBEq, Nat.reduceBNe, Int.reduceToNat, Int.reduceLT, Int.reduceLE, Int.reduceNeg, reduceCtorEq, Int.reduceEq, Int.reduceNe]), renL_cl2 (by rw [List.map_append (l₁ := D ++ [(v, c)])]; rfl) (clRn _)⟩
      · obtain rfl : k = w := by omega
        rw [if_pos (by rw [List.length_map]; omega), takeA, if_pos ⟨rfl, by rw [List.length_map]⟩, ← hrl, List.take_length]
    · rw [if_neg hj]
      refine PFun.res ?_ (Sub.t2 (Sub.nil 2) _)
      refine PFun.intro 400 mixed Tryd.func24 (by kernel_rfl) rfl (by first | exact .v _ | (simp [Cl_v, Cl_t, Cl_g, Cl_fn, Cl_rp, Cl_ro]; done) | (simp [Cl_v, Cl_t, Cl_g, Cl_fn, Cl_rp, Cl_ro, or_imp, forall_and]; done) | (split <;> simp [Cl_v, Cl_t, Cl_g, Cl_fn, Cl_rp, Cl_ro])) (Nat.le_of_ble_eq_true rfl) ?_; rw [Tryd.ntmps24, Tryd.results24]
      simp -dsimp -implicitDefEqProofs (maxSteps := 1000000) only [go_sem, ↓reduceIte, Nat.reduceAdd, Nat.reduceSub, Nat.reduceMul, Nat.reduceLT, Nat.reduceLeDiff, Nat.reduceEqDiff, Nat.reduceBEq, Nat.reduceBNe, Int.reduceToNat, Int.reduceLT, Int.reduceLE, Int.reduceNeg, reduceCtorEq, Int.reduceEq, Int.reduceNe]
      refine AtFn.pure0 hv ?_
      simp -dsimp -implicitDefEqProofs (maxSteps := 1000000) only [go_sem, ↓reduceIte, Nat.reduceAdd, Nat.reduceSub, Nat.reduceMul, Nat.reduceLT, Nat.reduceLeDiff, Nat.reduceEqDiff, Nat.reduceBEq, Nat.reduceBNe, Int.reduceToNat, Int.reduceLT, Int.reduceLE, Int.reduceNeg, reduceCtorEq, Int.reduceEq, Int.reduceNe, hc]
      by_cases f1 : j < 0
      · simp -dsimp -implicitDefEqProofs (maxSteps := 1000000) only [go_sem, ↓reduceIte, Nat.reduceAdd, Nat.reduceSub, Nat.reduceMul, Nat.reduceLT, Nat.reduceLeDiff, Nat.reduceEqDiff, Nat.reduceBEq, Nat.reduceBNe, Int.reduceToNat, Int.reduceLT, Int.reduceLE, Int.reduceNeg, reduceCtorEq, Int.reduceEq, Int.reduceNe, f1]
      · have f2 : (h : Int) ≤ j := by omega
        simp -dsimp -implicitDefEqProofs (maxSteps := 1000000) only [go_sem, ↓reduceIte, Nat.reduceAdd, Nat.reduceSub, Nat.reduceMul, Nat.reduceLT, Nat.reduceLeDiff, Nat.reduceEqDiff, Nat.reduceBEq, Nat.reduceBNe, Int.reduceToNat, Int.reduceLT, Int.reduceLE, Int.reduceNeg, reduceCtorEq, Int.reduceEq, Int.reduceNe, f1, f2]
  · have hc' : vaB r = false := by simpa using hc
    rw [if_neg hc]
    refine PFun.res ?_ (Sub.t2 (Sub.nil 2) _)
    obtain ⟨w, h, p⟩ := r
    refine PFun.intro 400 mixed Tryd.func24 (by kernel_rfl) rfl (by first | exact .v _ | (simp [Cl_v, Cl_t, Cl_g, Cl_fn, Cl_rp, Cl_ro]; done) | (simp [Cl_v, Cl_t, Cl_g, Cl_fn, Cl_rp, Cl_ro, or_imp, forall_and]; done) | (split <;> simp [Cl_v, Cl_t, Cl_g, Cl_fn, Cl_rp, Cl_ro])) (Nat.le_of_ble_eq_true rfl) ?_; rw [Tryd.ntmps24, Tryd.results24]
    simp -dsimp -implicitDefEqProofs (maxSteps := 1000000) only [go_sem, ↓reduceIte, Nat.reduceAdd, Nat.reduceSub, Nat.reduceMul, Nat.reduceLT, Nat.reduceLeDiff, Nat.reduceEqDiff, Nat.reduceBEq, Nat.reduceBNe, Int.reduceToNat, Int.reduceLT, Int.reduceLE, Int.reduceNeg, reduceCtorEq, Int.reduceEq, Int.reduceNe]
    refine AtFn.pure0 hv ?_
    simp -dsimp -implicitDefEqProofs (maxSteps := 1000000) only [go_sem, ↓reduceIte, Nat.reduceAdd, Nat.reduceSub, Nat.reduceMul, Nat.reduceLT, Nat.reduceLeDiff, Nat.reduceEqDiff, Nat.reduceBEq, Nat.reduceBNe, Int.reduceToNat, Int.reduceLT, Int.reduceLE, Int.reduceNeg, reduceCtorEq, Int.reduceEq, Int.reduceNe, hc']
end

end Go.Proofs.YtfmlhmfbhcfnpaaDoor
