/- What functions of the given program answer, part 1. Conditions: each theorem speaks for itself. -/
import Derived.Test.YtdamfkckjcplcaaBTy
set_option linter.unusedSimpArgs false
set_option linter.unusedVariables false
namespace Go.Proofs.Ytdamfkckjcplcaa
open Go Go.Eng Go.RowKit
attribute [local go_sem ↓] qE_move qE_assign qE_pick qE_load qE_fieldAddr qE_indexAddr qE_extract qE_binOp qE_not qE_convert qE_makeFunc qE_build qE_len qE_nilCheck qE_slice vc_end vc_skip vc_ret vc_seq vc_cond vc_block vc_exit vc_region vc_draw vc_loop vc_blk vc_lp vc_o_nil vc_o vc_o_guard onK_eq oK_move oK_assign oK_pick oK_load oK_fieldAddr oK_indexAddr oK_index oK_extract oK_binOp oK_unOp oK_convert oK_makeFunc oK_nilCheck oK_slice oK_build oK_len onN_eq oK_box oK_alloc oK_buildSlice onH_eq oK_store onA_eq oK_append oK_call oK_makeMap oK_lookup oK_mapUpdate bV_add bV_sub bV_mul bV_shr bV_eql bV_neq bV_lss bV_leq bV_gtr bV_geq vcQ_nil vcQ_cons vcQ_guard Q_move Q_assign Q_pick Q_load Q_fieldAddr Q_indexAddr Q_extract Q_binOp Q_unOp Q_nilCheck Q_slice Q_build Q_len Q_box Q_alloc Q_buildSlice onQA_eq Q_call qE_index tailB_nil tailB_true onS_eq tailB_store onP_eq tailB_append onQ_eq onQB_eq loadE indexE
attribute [local go_sem] force_eq optK_some optE_some optE_none bK_v tK_t fnK_fn fyK_fn nK_ptr nK_rp pK_ptr pK_rp brK_true brK_false brK_not evA_tmp evA_const evA_func putA_some putA_none pushA_eq slots_zero slots_nil tl_nil tl_cons find_cons find_nil setN_cons setN_nil dropN_nil dropN_cons loE_none loE_some hiE_none hiE_some slE_sl slE_ro bE_i bE_eql bE_neq intsA_nil intsA_cons gdK_b gdK_u popTo_blk popTo_c popTo_lp nilE_tmp nilE_int nilE_nil srcE_ro srcE_sl dstE_sl fin_eq res_nil res_tmp res_cell tup1 tup0 optA_some frz_v frz_ro frz_g frz_fn frz_ptr frz_sl optL_some nm_v nm_ro nm_g nm_fn nm_ptr nm_sl cells_v cells_g cells_ro cells_sl cells_fn one_int one_bool one_slice oneA_v oneA_ro oneA_sl ofV_int ofV_bool ofV_slice ofV_pointer len_ro len_sl asI_int fill_nil fill_cons chunks_nil chunks_cons take_all DrawK_eq idR_eq addB_some roB_cons sg_nil sg_cons ren_unk ren_v ren_nil ren_ptr ren_sl ren_ro ren_rp iK_ro iK_sl ixE_g takeA_00 takeA_s nil_eq maskE_eq i_InlQ i_tup2 i_oneMap i_RenF_nil i_RenF_cons i_cut_nil i_cut_cons wrap_wr brK_dec maskH_eq upd_get slots_succ Cl_v Cl_ro Cl_rp Cl_fn Cl_g Cl_t Bool.false_eq_true decide_true decide_false beq_self_eq_true true_and and_true ne_eq not_true not_false_eq_true List.elem_cons List.elem_nil List.contains_cons List.contains_nil List.getD_cons_zero List.getD_cons_succ Int.cast_ofNat_Int Bool.or_true Bool.true_or Bool.or_false Bool.false_or if_true if_false List.toList_toArray List.map_cons List.map_nil List.cons_append List.nil_append List.append_nil List.flatMap_cons List.flatMap_nil List.getElem?_cons_zero List.getElem?_cons_succ List.length_cons List.length_nil List.drop_succ_cons List.drop_zero List.take_succ_cons List.take_zero List.all_cons List.all_nil List.set_cons_zero List.set_cons_succ Option.bind_some Option.bind_none Option.map_some Option.map_none List.headD_cons List.tail_cons List.getElem?_toArray beq_true beq_false Bool.not_true Bool.not_false Bool.true_and Bool.and_true Bool.false_and Bool.and_false newCh List.replicate_succ List.replicate_zero Option.some.injEq exists_eq_left' sg_nil sg_cons List.mem_cons List.not_mem_nil forall_eq_or_imp forall_eq false_implies implies_true or_false false_or false_and and_false or_true true_or exists_false Option.isSome_some Option.isSome_none List.range_zero
attribute [local go_sem] T.sz3 T.by3 T.ag3 T.ik3 T.us3 T.ze3 T.sz4 T.ag4 T.sz22 T.ag22 T.sl22 T.sz28 T.ag28 T.ze28 T.bu28 T.sz32 T.ag32 T.sl32 T.ar32 T.pt32 T.ik32 T.us32 T.sz33 T.ag33 T.sl33 T.ar33 T.pt33 T.ik33 T.us33 T.sz40 T.ag40 T.sl40 T.ik40 T.us40 T.sz42 T.ag42 T.ze42 T.fl42_0 T.bu42 T.sz46 T.ag46 T.sl46 T.sz48 T.ag48 T.ze48 T.fl48_0 T.fl48_1 T.fl48_2 T.bu48 T.sz50 T.by50 T.ag50 T.ze50 T.fl50_0 T.fl50_1 T.fl50_2 T.fl50_3 T.bu50 T.sz54 T.ag54 T.sz56 T.ag56 T.ze56 T.fl56_0 T.fl56_1 T.fl56_2 T.fl56_3 T.bu56 T.sz58 T.by58 T.ag58 T.ze58 T.fl58_0 T.fl58_1 T.bu58 T.sz63 T.ag63 T.ze63 T.fl63_0 T.fl63_1 T.fl63_2 T.fl63_3 T.bu63 T.sz70 T.ag70 T.ze70 T.bu70 T.ze77 T.fl77_0 T.fl77_1 T.fl77_2 T.fl77_3 T.fl77_4 T.bu77 T.sz83 T.ag83 T.sl83 T.ar83 T.sz95 T.ag95 T.ze97 T.fl97_0 T.fl97_1 T.bu97 T.ag101 T.ik109 T.us109 T.ag112
section
theorem mixed : Try.prog.follows .mixedOrders = true := by kernel_rfl
/-- A rule: its pair, what it does, its value. -/
structure Ru where
  f : Int
  n : Int
  o : Int
  v : Int
abbrev ruC (r : Ru) : List AV := [I r.f, I r.n, I r.o, I r.v]
abbrev RuA (r : Ru) : AV := .g (ruC r)
abbrev Rus (l : List Ru) : AV := .ro 4 (l.map ruC)
def inCode (x : Int) : Bool := decide (0 ≤ x) && decide (x ≤ 255)
def inCoord (x : Int) : Bool := decide (-268435455 ≤ x) && decide (x ≤ 268435455)
theorem isCode33 (x : Int) : PFun Try.prog 33 [I x] (Bo (inCode x)) := by
  refine PFun.intro 400 mixed Try.func33 (by kernel_rfl) rfl (by first | exact .v _ | (simp [Cl_v, Cl_t, Cl_g, Cl_fn, Cl_rp, Cl_ro]; done) | (simp [Cl_v, Cl_t, Cl_g, Cl_fn, Cl_rp, Cl_ro, or_imp, forall_and]; done) | (split <;> simp [Cl_v, Cl_t, Cl_g, Cl_fn, Cl_rp, Cl_ro])) (Nat.le_of_ble_eq_true rfl) ?_; rw [Try.ntmps33, Try.results33]
  simp -dsimp -implicitDefEqProofs (maxSteps := 1000000) only [go_sem, ↓reduceIte, Nat.reduceAdd, Nat.reduceSub, Nat.reduceMul, Nat.reduceLT, Nat.reduceLeDiff, Nat.reduceEqDiff, Nat.reduceBEq, Nat.reduceBNe, Int.reduceToNat, Int.reduceLT, Int.reduceLE, Int.reduceNeg, reduceCtorEq, Int.reduceEq, Int.reduceNe]
  refine ⟨fun h => ?_, fun h => ?_⟩
  · have : decide (x < 256) = decide (x ≤ 255) := by simp; omega
    simp [inCode, h, this]
  · simp [inCode, h]
theorem code36 (x : Int) : PFun Try.prog 36 [I x] (Bo (inCode x)) := by
  refine PFun.intro 400 mixed Try.func36 (by kernel_rfl) rfl (by first | exact .v _ | (simp [Cl_v, Cl_t, Cl_g, Cl_fn, Cl_rp, Cl_ro]; done) | (simp [Cl_v, Cl_t, Cl_g, Cl_fn, Cl_rp, Cl_ro, or_imp, forall_and]; done) | (split <;> simp [Cl_v, Cl_t, Cl_g, Cl_fn, Cl_rp, Cl_ro])) (Nat.le_of_ble_eq_true rfl) ?_; rw [Try.ntmps36, Try.results36]
  simp -dsimp -implicitDefEqProofs (maxSteps := 1000000) only [go_sem, ↓reduceIte, Nat.reduceAdd, Nat.reduceSub, Nat.reduceMul, Nat.reduceLT, Nat.reduceLeDiff, Nat.reduceEqDiff, Nat.reduceBEq, Nat.reduceBNe, Int.reduceToNat, Int.reduceLT, Int.reduceLE, Int.reduceNeg, reduceCtorEq, Int.reduceEq, Int.reduceNe]
  constructor <;> intro h <;> simp [inCode, h]
theorem isCode87 (x : Int) : PFun Try.prog 87 [I x] (Bo (inCode x)) := by
  refine PFun.intro 400 mixed Try.func87 (by kernel_rfl) rfl (by first | exact .v _ | (simp [Cl_v, Cl_t, Cl_g, Cl_fn, Cl_rp, Cl_ro]; done) | (simp [Cl_v, Cl_t, Cl_g, Cl_fn, Cl_rp, Cl_ro, or_imp, forall_and]; done) | (split <;> simp [Cl_v, Cl_t, Cl_g, Cl_fn, Cl_rp, Cl_ro])) (Nat.le_of_ble_eq_true rfl) ?_; rw [Try.ntmps87, Try.results87]
  simp -dsimp -implicitDefEqProofs (maxSteps := 1000000) only [go_sem, ↓reduceIte, Nat.reduceAdd, Nat.reduceSub, Nat.reduceMul, Nat.reduceLT, Nat.reduceLeDiff, Nat.reduceEqDiff, Nat.reduceBEq, Nat.reduceBNe, Int.reduceToNat, Int.reduceLT, Int.reduceLE, Int.reduceNeg, reduceCtorEq, Int.reduceEq, Int.reduceNe]
  constructor <;> intro h <;> simp [inCode, h]
theorem isCoord88 (x : Int) : PFun Try.prog 88 [I x] (Bo (inCoord x)) := by
  refine PFun.intro 400 mixed Try.func88 (by kernel_rfl) rfl (by first | exact .v _ | (simp [Cl_v, Cl_t, Cl_g, Cl_fn, Cl_rp, Cl_ro]; done) | (simp [Cl_v, Cl_t, Cl_g, Cl_fn, Cl_rp, Cl_ro, or_imp, forall_and]; done) | (split <;> simp [Cl_v, Cl_t, Cl_g, Cl_fn, Cl_rp, Cl_ro])) (Nat.le_of_ble_eq_true rfl) ?_; rw [Try.ntmps88, Try.results88]
  simp -dsimp -implicitDefEqProofs (maxSteps := 1000000) only [go_sem, ↓reduceIte, Nat.reduceAdd, Nat.reduceSub, Nat.reduceMul, Nat.reduceLT, Nat.reduceLeDiff, Nat.reduceEqDiff, Nat.reduceBEq, Nat.reduceBNe, Int.reduceToNat, Int.reduceLT, Int.reduceLE, Int.reduceNeg, reduceCtorEq, Int.reduceEq, Int.reduceNe]
  constructor <;> intro h <;> simp [inCoord, h]
theorem code89 (x : Int) : PFun Try.prog 89 [I x] (Bo (inCode x)) := by
  refine PFun.intro 400 mixed Try.func89 (by kernel_rfl) rfl (by first | exact .v _ | (simp [Cl_v, Cl_t, Cl_g, Cl_fn, Cl_rp, Cl_ro]; done) | (simp [Cl_v, Cl_t, Cl_g, Cl_fn, Cl_rp, Cl_ro, or_imp, forall_and]; done) | (split <;> simp [Cl_v, Cl_t, Cl_g, Cl_fn, Cl_rp, Cl_ro])) (Nat.le_of_ble_eq_true rfl) ?_; rw [Try.ntmps89, Try.results89]
  simp -dsimp -implicitDefEqProofs (maxSteps := 1000000) only [go_sem, ↓reduceIte, Nat.reduceAdd, Nat.reduceSub, Nat.reduceMul, Nat.reduceLT, Nat.reduceLeDiff, Nat.reduceEqDiff, Nat.reduceBEq, Nat.reduceBNe, Int.reduceToNat, Int.reduceLT, Int.reduceLE, Int.reduceNeg, reduceCtorEq, Int.reduceEq, Int.reduceNe]
  constructor <;> intro h <;> simp [inCode, h]
theorem coord90 (x : Int) : PFun Try.prog 90 [I x] (Bo (inCoord x)) := by
  refine PFun.intro 400 mixed Try.func90 (by kernel_rfl) rfl (by first | exact .v _ | (simp [Cl_v, Cl_t, Cl_g, Cl_fn, Cl_rp, Cl_ro]; done) | (simp [Cl_v, Cl_t, Cl_g, Cl_fn, Cl_rp, Cl_ro, or_imp, forall_and]; done) | (split <;> simp [Cl_v, Cl_t, Cl_g, Cl_fn, Cl_rp, Cl_ro])) (Nat.le_of_ble_eq_true rfl) ?_; rw [Try.ntmps90, Try.results90]
  simp -dsimp -implicitDefEqProofs (maxSteps := 1000000) only [go_sem, ↓reduceIte, Nat.reduceAdd, Nat.reduceSub, Nat.reduceMul, Nat.reduceLT, Nat.reduceLeDiff, Nat.reduceEqDiff, Nat.reduceBEq, Nat.reduceBNe, Int.reduceToNat, Int.reduceLT, Int.reduceLE, Int.reduceNeg, reduceCtorEq, Int.reduceEq, Int.reduceNe]
  constructor <;> intro h <;> simp [inCoord, h]
/-- A rule is valid. -/
def okR (r : Ru) : Bool := inCode r.f && inCode r.n && decide (0 ≤ r.o) && decide (r.o ≤ 4) && (if r.o = 0 then inCoord r.v else inCode r.v)
theorem isRule (r : Ru) : PFun Try.prog 61 [RuA r] (Bo (okR r)) := by
  refine PFun.intro 400 mixed Try.func61 (by kernel_rfl) rfl (by first | exact .v _ | (simp [Cl_v, Cl_t, Cl_g, Cl_fn, Cl_rp, Cl_ro]; done) | (simp [Cl_v, Cl_t, Cl_g, Cl_fn, Cl_rp, Cl_ro, or_imp, forall_and]; done) | (split <;> simp [Cl_v, Cl_t, Cl_g, Cl_fn, Cl_rp, Cl_ro])) (Nat.le_of_ble_eq_true rfl) ?_; rw [Try.ntmps61, Try.results61]
  simp -dsimp -implicitDefEqProofs (maxSteps := 1000000) only [go_sem, ↓reduceIte, Nat.reduceAdd, Nat.reduceSub, Nat.reduceMul, Nat.reduceLT, Nat.reduceLeDiff, Nat.reduceEqDiff, Nat.reduceBEq, Nat.reduceBNe, Int.reduceToNat, Int.reduceLT, Int.reduceLE, Int.reduceNeg, reduceCtorEq, Int.reduceEq, Int.reduceNe]
  repeat' (first | (apply And.intro <;> (try intro _) <;> try simp -dsimp -implicitDefEqProofs (maxSteps := 1000000) only [go_sem, ↓reduceIte, Nat.reduceAdd, Nat.reduceSub, Nat.reduceMul, Nat.reduceLT, Nat.reduceLeDiff, Nat.reduceEqDiff, Nat.reduceBEq, Nat.reduceBNe, Int.reduceToNat, Int.reduceLT, Int.reduceLE, Int.reduceNeg, reduceCtorEq, Int.reduceEq, Int.reduceNe]) | (refine AtFn.pure0 (isCode87 _) ?_; try simp -dsimp -implicitDefEqProofs (maxSteps := 1000000) only [go_sem, ↓reduceIte, Nat.reduceAdd, Nat.reduceSub, Nat.reduceMul, Nat.reduceLT, Nat.reduceLeDiff, Nat.reduceEqDiff, Nat.reduceBEq, Nat.reduceBNe, Int.reduceToNat, Int.reduceLT, Int.reduceLE, Int.reduceNeg, reduceCtorEq, Int.reduceEq, Int.reduceNe]) | (refine AtFn.pure0 (isCoord88 _) ?_; try simp -dsimp -implicitDefEqProofs (maxSteps := 1000000) only [go_sem, ↓reduceIte, Nat.reduceAdd, Nat.reduceSub, Nat.reduceMul, Nat.reduceLT, Nat.reduceLeDiff, Nat.reduceEqDiff, Nat.reduceBEq, Nat.reduceBNe, Int.reduceToNat, Int.reduceLT, Int.reduceLE, Int.reduceNeg, reduceCtorEq, Int.reduceEq, Int.reduceNe]))
  all_goals simp_all [okR]
  all_goals (intros; exfalso; omega)
theorem rRule (r : Ru) : PFun Try.prog 64 [RuA r] (Bo (okR r)) := by
  refine PFun.intro 400 mixed Try.func64 (by kernel_rfl) rfl (by first | exact .v _ | (simp [Cl_v, Cl_t, Cl_g, Cl_fn, Cl_rp, Cl_ro]; done) | (simp [Cl_v, Cl_t, Cl_g, Cl_fn, Cl_rp, Cl_ro, or_imp, forall_and]; done) | (split <;> simp [Cl_v, Cl_t, Cl_g, Cl_fn, Cl_rp, Cl_ro])) (Nat.le_of_ble_eq_true rfl) ?_; rw [Try.ntmps64, Try.results64]
  simp -dsimp -implicitDefEqProofs (maxSteps := 1000000) only [go_sem, ↓reduceIte, Nat.reduceAdd, Nat.reduceSub, Nat.reduceMul, Nat.reduceLT, Nat.reduceLeDiff, Nat.reduceEqDiff, Nat.reduceBEq, Nat.reduceBNe, Int.reduceToNat, Int.reduceLT, Int.reduceLE, Int.reduceNeg, reduceCtorEq, Int.reduceEq, Int.reduceNe]
  repeat' (first | (apply And.intro <;> (try intro _) <;> try simp -dsimp -implicitDefEqProofs (maxSteps := 1000000) only [go_sem, ↓reduceIte, Nat.reduceAdd, Nat.reduceSub, Nat.reduceMul, Nat.reduceLT, Nat.reduceLeDiff, Nat.reduceEqDiff, Nat.reduceBEq, Nat.reduceBNe, Int.reduceToNat, Int.reduceLT, Int.reduceLE, Int.reduceNeg, reduceCtorEq, Int.reduceEq, Int.reduceNe]) | (refine AtFn.pure0 (code89 _) ?_; try simp -dsimp -implicitDefEqProofs (maxSteps := 1000000) only [go_sem, ↓reduceIte, Nat.reduceAdd, Nat.reduceSub, Nat.reduceMul, Nat.reduceLT, Nat.reduceLeDiff, Nat.reduceEqDiff, Nat.reduceBEq, Nat.reduceBNe, Int.reduceToNat, Int.reduceLT, Int.reduceLE, Int.reduceNeg, reduceCtorEq, Int.reduceEq, Int.reduceNe]) | (refine AtFn.pure0 (coord90 _) ?_; try simp -dsimp -implicitDefEqProofs (maxSteps := 1000000) only [go_sem, ↓reduceIte, Nat.reduceAdd, Nat.reduceSub, Nat.reduceMul, Nat.reduceLT, Nat.reduceLeDiff, Nat.reduceEqDiff, Nat.reduceBEq, Nat.reduceBNe, Int.reduceToNat, Int.reduceLT, Int.reduceLE, Int.reduceNeg, reduceCtorEq, Int.reduceEq, Int.reduceNe]))
  all_goals simp_all [okR]
  all_goals (intros; exfalso; omega)
end

section
set_option maxRecDepth 20000
theorem clRu (r : Ru) : ∀ s ∈ ruC r, Cl s := by simp [Cl_v]
theorem clRus (l : List Ru) : Cl (Rus l) := .ro (fun c hc s hs => by obtain ⟨r, _, rfl⟩ := List.mem_map.1 hc; exact clRu r s hs)
theorem clRusL (l : List Ru) : (∀ c ∈ l.map ruC, ∀ s ∈ c, Cl s) ↔ True := iff_true_intro (Cl_ro.1 (clRus l))
attribute [local go_sem] clRusL
/-- The first place of a list where something holds, or −1. -/
def idx {α : Type} (p : α → Bool) (l : List α) : Int := match l.findIdx? p with | some i => i | none => -1
theorem idx_some {α : Type} {p : α → Bool} {l : List α} {i : Nat} {x : α} (h : l[i]? = some x) (hp : p x = true) (hn : ∀ j, j < i → ∀ y, l[j]? = some y → p y = false) : idx p l = i := by
  obtain ⟨hi, rfl⟩ := List.getElem?_eq_some_iff.1 h
  have : l.findIdx? p = some i := by
    rw [List.findIdx?_eq_some_iff_getElem]
    exact ⟨hi, hp, fun j hj => by simpa using hn j hj _ (List.getElem?_eq_getElem (by omega))⟩
  simp [idx, this]
theorem idx_none {α : Type} {p : α → Bool} {l : List α} (hn : ∀ j, j < l.length → ∀ y, l[j]? = some y → p y = false) : idx p l = -1 := by
  have : l.findIdx? p = none := by
    rw [List.findIdx?_eq_none_iff]
    intro x hx
    obtain ⟨j, hj, rfl⟩ := List.getElem_of_mem hx
    simpa using hn j hj _ (List.getElem?_eq_getElem hj)
  simp [idx, this]
theorem idx_any {α : Type} (p : α → Bool) (l : List α) : decide (0 ≤ idx p l) = l.any p := by
  unfold idx
  cases h : l.findIdx? p with
  | none =>
    rw [List.findIdx?_eq_none_iff] at h
    have : l.any p = false := by rw [List.any_eq_false]; intro x hx; simpa using h x hx
    simp [this]
  | some i =>
    rw [List.findIdx?_eq_some_iff_getElem] at h
    obtain ⟨hi, h1, _⟩ := h
    have : l.any p = true := by rw [List.any_eq_true]; exact ⟨_, List.getElem_mem hi, h1⟩
    simp [this]
theorem indexR (g : Nat) (caps : List AV) (hc : ∀ x ∈ caps, Cl x) (p : Ru → Bool) (hg : ∀ r, PFun Try.prog g (RuA r :: caps) (Bo (p r))) (l : List Ru) (hl : l.length < 2 ^ 62) : PFun Try.prog 96 [Rus l, .fn g caps] (I (idx p l)) := by
  have hfn : Cl (.fn g caps) := .fn hc
  refine PFun.intro 400 mixed Try.func96 (by kernel_rfl) rfl (by first | exact .v _ | (simp [Cl_v, Cl_t, Cl_g, Cl_fn, Cl_rp, Cl_ro]; done) | (simp [Cl_v, Cl_t, Cl_g, Cl_fn, Cl_rp, Cl_ro, or_imp, forall_and]; done) | (split <;> simp [Cl_v, Cl_t, Cl_g, Cl_fn, Cl_rp, Cl_ro])) (Nat.le_of_ble_eq_true rfl) ?_; rw [Try.ntmps96, Try.results96]
  simp -dsimp -implicitDefEqProofs (maxSteps := 1000000) only [go_sem, ↓reduceIte, Nat.reduceAdd, Nat.reduceSub, Nat.reduceMul, Nat.reduceLT, Nat.reduceLeDiff, Nat.reduceEqDiff, Nat.reduceBEq, Nat.reduceBNe, Int.reduceToNat, Int.reduceLT, Int.reduceLE, Int.reduceNeg, reduceCtorEq, Int.reduceEq, Int.reduceNe, List.length_map]
  refine ⟨{i : Nat // i ≤ l.length ∧ ∀ j, j < i → ∀ y, l[j]? = some y → p y = false}, fun i => ⟨19, tl [(0, Rus l), (1, .fn g caps), (4, I 0), (7, I l.length), (8, I i.1)], [], 0, .nil⟩, fun i => l.length - i.1,
    ⟨⟨0, by omega, by intro j h; omega⟩, Le.tl (Ls := []) (y := none) [] ?_ (by simp) (by simp) (by simp) trivial⟩, fun i => ?_⟩
  · simp -dsimp -implicitDefEqProofs (maxSteps := 1000000) only [go_sem, ↓reduceIte, Nat.reduceAdd, Nat.reduceSub, Nat.reduceMul, Nat.reduceLT, Nat.reduceLeDiff, Nat.reduceEqDiff, Nat.reduceBEq, Nat.reduceBNe, Int.reduceToNat, Int.reduceLT, Int.reduceLE, Int.reduceNeg, reduceCtorEq, Int.reduceEq, Int.reduceNe]
    exact .cl hfn
  · obtain ⟨i, hi, hall⟩ := i
    simp -dsimp -implicitDefEqProofs (maxSteps := 1000000) only [go_sem, ↓reduceIte, Nat.reduceAdd, Nat.reduceSub, Nat.reduceMul, Nat.reduceLT, Nat.reduceLeDiff, Nat.reduceEqDiff, Nat.reduceBEq, Nat.reduceBNe, Int.reduceToNat, Int.reduceLT, Int.reduceLE, Int.reduceNeg, reduceCtorEq, Int.reduceEq, Int.reduceNe]
    refine ⟨fun h => ?_, fun h => ?_⟩
    · have hlt : i < l.length := by omega
      have hp : l[i]? = some l[i] := List.getElem?_eq_getElem hlt
      simp -dsimp -implicitDefEqProofs (maxSteps := 1000000) only [go_sem, ↓reduceIte, Nat.reduceAdd, Nat.reduceSub, Nat.reduceMul, Nat.reduceLT, Nat.reduceLeDiff, Nat.reduceEqDiff, Nat.reduceBEq, Nat.reduceBNe, Int.reduceToNat, Int.reduceLT, Int.reduceLE, Int.reduceNeg, reduceCtorEq, Int.reduceEq, Int.reduceNe, List.getElem?_map, Int.toNat_natCast, Int.natCast_nonneg, hp]
      refine AtFn.pure0 (hg _) ?_
      simp -dsimp -implicitDefEqProofs (maxSteps := 1000000) only [go_sem, ↓reduceIte, Nat.reduceAdd, Nat.reduceSub, Nat.reduceMul, Nat.reduceLT, Nat.reduceLeDiff, Nat.reduceEqDiff, Nat.reduceBEq, Nat.reduceBNe, Int.reduceToNat, Int.reduceLT, Int.reduceLE, Int.reduceNeg, reduceCtorEq, Int.reduceEq, Int.reduceNe]
      refine ⟨hc, ?_⟩
      cases hb : p l[i]
      · simp -dsimp -implicitDefEqProofs (maxSteps := 1000000) only [go_sem, ↓reduceIte, Nat.reduceAdd, Nat.reduceSub, Nat.reduceMul, Nat.reduceLT, Nat.reduceLeDiff, Nat.reduceEqDiff, Nat.reduceBEq, Nat.reduceBNe, Int.reduceToNat, Int.reduceLT, Int.reduceLE, Int.reduceNeg, reduceCtorEq, Int.reduceEq, Int.reduceNe]
        refine ⟨⟨i + 1, by omega, fun j h' y hy => ?_⟩, by show l.length - (i + 1) < l.length - i; omega, Le.tl (Ls := []) (y := none) [] ?_ (by simp) (by simp) (by simp) trivial⟩
        · by_cases hj : j = i
          · subst hj; rw [hp] at hy; cases hy; exact hb
          · exact hall j (by omega) y hy
        · simp -dsimp -implicitDefEqProofs (maxSteps := 1000000) only [go_sem, ↓reduceIte, Nat.reduceAdd, Nat.reduceSub, Nat.reduceMul, Nat.reduceLT, Nat.reduceLeDiff, Nat.reduceEqDiff, Nat.reduceBEq, Nat.reduceBNe, Int.reduceToNat, Int.reduceLT, Int.reduceLE, Int.reduceNeg, reduceCtorEq, Int.reduceEq, Int.reduceNe]
          refine ⟨.cl hfn, ?_⟩
          rw [wr_in (by omega) (by omega)]
          rfl
      · simp -dsimp -implicitDefEqProofs (maxSteps := 1000000) only [go_sem, ↓reduceIte, Nat.reduceAdd, Nat.reduceSub, Nat.reduceMul, Nat.reduceLT, Nat.reduceLeDiff, Nat.reduceEqDiff, Nat.reduceBEq, Nat.reduceBNe, Int.reduceToNat, Int.reduceLT, Int.reduceLE, Int.reduceNeg, reduceCtorEq, Int.reduceEq, Int.reduceNe]
        rw [idx_some hp hb hall]
    · have hi' : i = l.length := by omega
      subst hi'
      rw [idx_none hall]
theorem containsR (g : Nat) (caps : List AV) (hc : ∀ x ∈ caps, Cl x) (p : Ru → Bool) (hg : ∀ r, PFun Try.prog g (RuA r :: caps) (Bo (p r))) (l : List Ru) (hl : l.length < 2 ^ 62) : PFun Try.prog 85 [Rus l, .fn g caps] (Bo (l.any p)) := by
  refine PFun.intro 400 mixed Try.func85 (by kernel_rfl) rfl (by first | exact .v _ | (simp [Cl_v, Cl_t, Cl_g, Cl_fn, Cl_rp, Cl_ro]; done) | (simp [Cl_v, Cl_t, Cl_g, Cl_fn, Cl_rp, Cl_ro, or_imp, forall_and]; done) | (split <;> simp [Cl_v, Cl_t, Cl_g, Cl_fn, Cl_rp, Cl_ro])) (Nat.le_of_ble_eq_true rfl) ?_; rw [Try.ntmps85, Try.results85]
  simp -dsimp -implicitDefEqProofs (maxSteps := 1000000) only [go_sem, ↓reduceIte, Nat.reduceAdd, Nat.reduceSub, Nat.reduceMul, Nat.reduceLT, Nat.reduceLeDiff, Nat.reduceEqDiff, Nat.reduceBEq, Nat.reduceBNe, Int.reduceToNat, Int.reduceLT, Int.reduceLE, Int.reduceNeg, reduceCtorEq, Int.reduceEq, Int.reduceNe]
  refine AtFn.pure0 (indexR g caps hc p hg l hl) ?_
  simp -dsimp -implicitDefEqProofs (maxSteps := 1000000) only [go_sem, ↓reduceIte, Nat.reduceAdd, Nat.reduceSub, Nat.reduceMul, Nat.reduceLT, Nat.reduceLeDiff, Nat.reduceEqDiff, Nat.reduceBEq, Nat.reduceBNe, Int.reduceToNat, Int.reduceLT, Int.reduceLE, Int.reduceNeg, reduceCtorEq, Int.reduceEq, Int.reduceNe]
  refine ⟨hc, ?_⟩
  rw [idx_any]
end

section
set_option maxRecDepth 20000
attribute [local go_sem] clRusL
theorem notR (g : Nat) (p : Ru → Bool) (hg : ∀ r, PFun Try.prog g [RuA r] (Bo (p r))) (r : Ru) : PFun Try.prog 86 [RuA r, .rp [.fn g []] 0] (Bo (!p r)) := by
  refine PFun.intro 400 mixed Try.func86 (by kernel_rfl) rfl (by first | exact .v _ | (simp [Cl_v, Cl_t, Cl_g, Cl_fn, Cl_rp, Cl_ro]; done) | (simp [Cl_v, Cl_t, Cl_g, Cl_fn, Cl_rp, Cl_ro, or_imp, forall_and]; done) | (split <;> simp [Cl_v, Cl_t, Cl_g, Cl_fn, Cl_rp, Cl_ro])) (Nat.le_of_ble_eq_true rfl) ?_; rw [Try.ntmps86, Try.results86]
  simp -dsimp -implicitDefEqProofs (maxSteps := 1000000) only [go_sem, ↓reduceIte, Nat.reduceAdd, Nat.reduceSub, Nat.reduceMul, Nat.reduceLT, Nat.reduceLeDiff, Nat.reduceEqDiff, Nat.reduceBEq, Nat.reduceBNe, Int.reduceToNat, Int.reduceLT, Int.reduceLE, Int.reduceNeg, reduceCtorEq, Int.reduceEq, Int.reduceNe]
  refine AtFn.pure0 (hg _) ?_
  simp -dsimp -implicitDefEqProofs (maxSteps := 1000000) only [go_sem, ↓reduceIte, Nat.reduceAdd, Nat.reduceSub, Nat.reduceMul, Nat.reduceLT, Nat.reduceLeDiff, Nat.reduceEqDiff, Nat.reduceBEq, Nat.reduceBNe, Int.reduceToNat, Int.reduceLT, Int.reduceLE, Int.reduceNeg, reduceCtorEq, Int.reduceEq, Int.reduceNe]
theorem allR (g : Nat) (p : Ru → Bool) (hg : ∀ r, PFun Try.prog g [RuA r] (Bo (p r))) (l : List Ru) (hl : l.length < 2 ^ 62) : PFun Try.prog 60 [Rus l, .fn g []] (Bo (l.all p)) := by
  have hc : ∀ x ∈ [AV.rp [.fn g []] 0], Cl x := by simp [Cl_rp, Cl_fn]
  refine PFun.intro 400 mixed Try.func60 (by kernel_rfl) rfl (by first | exact .v _ | (simp [Cl_v, Cl_t, Cl_g, Cl_fn, Cl_rp, Cl_ro]; done) | (simp [Cl_v, Cl_t, Cl_g, Cl_fn, Cl_rp, Cl_ro, or_imp, forall_and]; done) | (split <;> simp [Cl_v, Cl_t, Cl_g, Cl_fn, Cl_rp, Cl_ro])) (Nat.le_of_ble_eq_true rfl) ?_; rw [Try.ntmps60, Try.results60]
  simp -dsimp -implicitDefEqProofs (maxSteps := 1000000) only [go_sem, ↓reduceIte, Nat.reduceAdd, Nat.reduceSub, Nat.reduceMul, Nat.reduceLT, Nat.reduceLeDiff, Nat.reduceEqDiff, Nat.reduceBEq, Nat.reduceBNe, Int.reduceToNat, Int.reduceLT, Int.reduceLE, Int.reduceNeg, reduceCtorEq, Int.reduceEq, Int.reduceNe]
  refine AtFn.pure (containsR 86 [.rp [.fn g []] 0] hc (fun r => !p r) (notR g p hg) l hl) ?_
  simp -dsimp -implicitDefEqProofs (maxSteps := 1000000) only [go_sem, ↓reduceIte, Nat.reduceAdd, Nat.reduceSub, Nat.reduceMul, Nat.reduceLT, Nat.reduceLeDiff, Nat.reduceEqDiff, Nat.reduceBEq, Nat.reduceBNe, Int.reduceToNat, Int.reduceLT, Int.reduceLE, Int.reduceNeg, reduceCtorEq, Int.reduceEq, Int.reduceNe]
  rw [show (!l.any fun r => !p r) = l.all p by rw [List.all_eq_not_any_not]]
theorem isNaN (x : Int) : PFun Try.prog 93 [I x] (Bo false) := by
  refine PFun.intro 400 mixed Try.func93 (by kernel_rfl) rfl (by first | exact .v _ | (simp [Cl_v, Cl_t, Cl_g, Cl_fn, Cl_rp, Cl_ro]; done) | (simp [Cl_v, Cl_t, Cl_g, Cl_fn, Cl_rp, Cl_ro, or_imp, forall_and]; done) | (split <;> simp [Cl_v, Cl_t, Cl_g, Cl_fn, Cl_rp, Cl_ro])) (Nat.le_of_ble_eq_true rfl) ?_; rw [Try.ntmps93, Try.results93]
  simp -dsimp -implicitDefEqProofs (maxSteps := 1000000) only [go_sem, ↓reduceIte, Nat.reduceAdd, Nat.reduceSub, Nat.reduceMul, Nat.reduceLT, Nat.reduceLeDiff, Nat.reduceEqDiff, Nat.reduceBEq, Nat.reduceBNe, Int.reduceToNat, Int.reduceLT, Int.reduceLE, Int.reduceNeg, reduceCtorEq, Int.reduceEq, Int.reduceNe]
def cmpZ (a b : Int) : Int := if a < b then -1 else if a > b then 1 else 0
theorem compare (a b : Int) : PFun Try.prog 73 [I a, I b] (I (cmpZ a b)) := by
  refine PFun.intro 400 mixed Try.func73 (by kernel_rfl) rfl (by first | exact .v _ | (simp [Cl_v, Cl_t, Cl_g, Cl_fn, Cl_rp, Cl_ro]; done) | (simp [Cl_v, Cl_t, Cl_g, Cl_fn, Cl_rp, Cl_ro, or_imp, forall_and]; done) | (split <;> simp [Cl_v, Cl_t, Cl_g, Cl_fn, Cl_rp, Cl_ro])) (Nat.le_of_ble_eq_true rfl) ?_; rw [Try.ntmps73, Try.results73]
  simp -dsimp -implicitDefEqProofs (maxSteps := 1000000) only [go_sem, ↓reduceIte, Nat.reduceAdd, Nat.reduceSub, Nat.reduceMul, Nat.reduceLT, Nat.reduceLeDiff, Nat.reduceEqDiff, Nat.reduceBEq, Nat.reduceBNe, Int.reduceToNat, Int.reduceLT, Int.reduceLE, Int.reduceNeg, reduceCtorEq, Int.reduceEq, Int.reduceNe]
  refine AtFn.pure0 (isNaN _) ?_
  simp -dsimp -implicitDefEqProofs (maxSteps := 1000000) only [go_sem, ↓reduceIte, Nat.reduceAdd, Nat.reduceSub, Nat.reduceMul, Nat.reduceLT, Nat.reduceLeDiff, Nat.reduceEqDiff, Nat.reduceBEq, Nat.reduceBNe, Int.reduceToNat, Int.reduceLT, Int.reduceLE, Int.reduceNeg, reduceCtorEq, Int.reduceEq, Int.reduceNe]
  refine AtFn.pure0 (isNaN _) ?_
  simp -dsimp -implicitDefEqProofs (maxSteps := 1000000) only [go_sem, ↓reduceIte, Nat.reduceAdd, Nat.reduceSub, Nat.reduceMul, Nat.reduceLT, Nat.reduceLeDiff, Nat.reduceEqDiff, Nat.reduceBEq, Nat.reduceBNe, Int.reduceToNat, Int.reduceLT, Int.reduceLE, Int.reduceNeg, reduceCtorEq, Int.reduceEq, Int.reduceNe]
  repeat' (apply And.intro <;> (try intro _) <;> try simp -dsimp -implicitDefEqProofs (maxSteps := 1000000) only [go_sem, ↓reduceIte, Nat.reduceAdd, Nat.reduceSub, Nat.reduceMul, Nat.reduceLT, Nat.reduceLeDiff, Nat.reduceEqDiff, Nat.reduceBEq, Nat.reduceBNe, Int.reduceToNat, Int.reduceLT, Int.reduceLE, Int.reduceNeg, reduceCtorEq, Int.reduceEq, Int.reduceNe])
  all_goals (unfold cmpZ; simp_all)
  all_goals (rw [if_neg (by omega), if_neg (by omega)])
end

section
set_option maxRecDepth 20000
attribute [local go_sem] clRusL
def pairW (r : Ru) : Int := wr (wr (256 * r.f) + r.n)
theorem rPair (r : Ru) : PFun Try.prog 65 [RuA r] (I (pairW r)) := by
  refine PFun.intro 400 mixed Try.func65 (by kernel_rfl) rfl (by first | exact .v _ | (simp [Cl_v, Cl_t, Cl_g, Cl_fn, Cl_rp, Cl_ro]; done) | (simp [Cl_v, Cl_t, Cl_g, Cl_fn, Cl_rp, Cl_ro, or_imp, forall_and]; done) | (split <;> simp [Cl_v, Cl_t, Cl_g, Cl_fn, Cl_rp, Cl_ro])) (Nat.le_of_ble_eq_true rfl) ?_; rw [Try.ntmps65, Try.results65]
  simp -dsimp -implicitDefEqProofs (maxSteps := 1000000) only [go_sem, ↓reduceIte, Nat.reduceAdd, Nat.reduceSub, Nat.reduceMul, Nat.reduceLT, Nat.reduceLeDiff, Nat.reduceEqDiff, Nat.reduceBEq, Nat.reduceBNe, Int.reduceToNat, Int.reduceLT, Int.reduceLE, Int.reduceNeg, reduceCtorEq, Int.reduceEq, Int.reduceNe]
  rfl
abbrev Ints (l : List Int) : AV := .ro 1 (l.map fun x => [I x])
theorem clInts (l : List Int) : Cl (Ints l) := .ro (fun c hc s hs => by obtain ⟨r, _, rfl⟩ := List.mem_map.1 hc; simp at hs; subst hs; exact .v _)
def orZ (a b : Int) : Int := if a = 0 then b else a
theorem or2 (a b : Int) : PFun Try.prog 72 [Ints [a, b]] (I (orZ a b)) := by
  refine PFun.intro 400 mixed Try.func72 (by kernel_rfl) rfl (by first | exact .v _ | (simp [Cl_v, Cl_t, Cl_g, Cl_fn, Cl_rp, Cl_ro]; done) | (simp [Cl_v, Cl_t, Cl_g, Cl_fn, Cl_rp, Cl_ro, or_imp, forall_and]; done) | (split <;> simp [Cl_v, Cl_t, Cl_g, Cl_fn, Cl_rp, Cl_ro])) (Nat.le_of_ble_eq_true rfl) ?_; rw [Try.ntmps72, Try.results72]
  simp -dsimp -implicitDefEqProofs (maxSteps := 1000000) only [go_sem, ↓reduceIte, Nat.reduceAdd, Nat.reduceSub, Nat.reduceMul, Nat.reduceLT, Nat.reduceLeDiff, Nat.reduceEqDiff, Nat.reduceBEq, Nat.reduceBNe, Int.reduceToNat, Int.reduceLT, Int.reduceLE, Int.reduceNeg, reduceCtorEq, Int.reduceEq, Int.reduceNe]
  refine ⟨{i : Nat // i ≤ 2 ∧ (1 ≤ i → a = 0) ∧ (2 ≤ i → b = 0)}, fun i => ⟨18, tl [(3, I 0), (6, Ints [a, b]), (7, I 2), (8, I i.1)], [], 0, .nil⟩, fun i => 2 - i.1,
    ⟨⟨0, by omega, by omega, by omega⟩, Le.tl (Ls := []) (y := none) [] ?_ (by simp) (by simp) (by simp) trivial⟩, fun i => ?_⟩
  · simp -dsimp -implicitDefEqProofs (maxSteps := 1000000) only [go_sem, ↓reduceIte, Nat.reduceAdd, Nat.reduceSub, Nat.reduceMul, Nat.reduceLT, Nat.reduceLeDiff, Nat.reduceEqDiff, Nat.reduceBEq, Nat.reduceBNe, Int.reduceToNat, Int.reduceLT, Int.reduceLE, Int.reduceNeg, reduceCtorEq, Int.reduceEq, Int.reduceNe]
    try exact .cl (clInts [a, b])
  · obtain ⟨i, hi, h1, h2⟩ := i
    match i, hi, h1, h2 with
    | 0, _, _, _ =>
      simp -dsimp -implicitDefEqProofs (maxSteps := 1000000) only [go_sem, ↓reduceIte, Nat.reduceAdd, Nat.reduceSub, Nat.reduceMul, Nat.reduceLT, Nat.reduceLeDiff, Nat.reduceEqDiff, Nat.reduceBEq, Nat.reduceBNe, Int.reduceToNat, Int.reduceLT, Int.reduceLE, Int.reduceNeg, reduceCtorEq, Int.reduceEq, Int.reduceNe]
      refine ⟨fun h => ?_, fun h => ?_⟩
      · refine ⟨⟨1, by omega, fun _ => h, by omega⟩, by show 2 - 1 < 2; omega, Le.tl (Ls := []) (y := none) [] ?_ (by simp) (by simp) (by simp) trivial⟩
        simp -dsimp -implicitDefEqProofs (maxSteps := 1000000) only [go_sem, ↓reduceIte, Nat.reduceAdd, Nat.reduceSub, Nat.reduceMul, Nat.reduceLT, Nat.reduceLeDiff, Nat.reduceEqDiff, Nat.reduceBEq, Nat.reduceBNe, Int.reduceToNat, Int.reduceLT, Int.reduceLE, Int.reduceNeg, reduceCtorEq, Int.reduceEq, Int.reduceNe]
        rfl
      · simp [orZ, h]
    | 1, _, h1, _ =>
      have ha := h1 (by omega)
      subst ha
      simp -dsimp -implicitDefEqProofs (maxSteps := 1000000) only [go_sem, ↓reduceIte, Nat.reduceAdd, Nat.reduceSub, Nat.reduceMul, Nat.reduceLT, Nat.reduceLeDiff, Nat.reduceEqDiff, Nat.reduceBEq, Nat.reduceBNe, Int.reduceToNat, Int.reduceLT, Int.reduceLE, Int.reduceNeg, reduceCtorEq, Int.reduceEq, Int.reduceNe]
      refine ⟨fun h => ?_, fun h => ?_⟩
      · refine ⟨⟨2, by omega, fun _ => rfl, fun _ => h⟩, by show 2 - 2 < 1; omega, Le.tl (Ls := []) (y := none) [] ?_ (by simp) (by simp) (by simp) trivial⟩
        simp -dsimp -implicitDefEqProofs (maxSteps := 1000000) only [go_sem, ↓reduceIte, Nat.reduceAdd, Nat.reduceSub, Nat.reduceMul, Nat.reduceLT, Nat.reduceLeDiff, Nat.reduceEqDiff, Nat.reduceBEq, Nat.reduceBNe, Int.reduceToNat, Int.reduceLT, Int.reduceLE, Int.reduceNeg, reduceCtorEq, Int.reduceEq, Int.reduceNe]
        rfl
      · simp [orZ]
    | 2, _, h1, h2 =>
      have ha := h1 (by omega)
      have hb := h2 (by omega)
      subst ha; subst hb
      simp -dsimp -implicitDefEqProofs (maxSteps := 1000000) only [go_sem, ↓reduceIte, Nat.reduceAdd, Nat.reduceSub, Nat.reduceMul, Nat.reduceLT, Nat.reduceLeDiff, Nat.reduceEqDiff, Nat.reduceBEq, Nat.reduceBNe, Int.reduceToNat, Int.reduceLT, Int.reduceLE, Int.reduceNeg, reduceCtorEq, Int.reduceEq, Int.reduceNe]
      rfl
    | i + 3, h, _, _ => omega
def cmpP (a b : Ru) : Int := orZ (cmpZ a.f b.f) (cmpZ a.n b.n)
theorem comparePairs (a b : Ru) : PFun Try.prog 63 [RuA a, RuA b] (I (cmpP a b)) := by
  refine PFun.intro 400 mixed Try.func63 (by kernel_rfl) rfl (by first | exact .v _ | (simp [Cl_v, Cl_t, Cl_g, Cl_fn, Cl_rp, Cl_ro]; done) | (simp [Cl_v, Cl_t, Cl_g, Cl_fn, Cl_rp, Cl_ro, or_imp, forall_and]; done) | (split <;> simp [Cl_v, Cl_t, Cl_g, Cl_fn, Cl_rp, Cl_ro])) (Nat.le_of_ble_eq_true rfl) ?_; rw [Try.ntmps63, Try.results63]
  simp -dsimp -implicitDefEqProofs (maxSteps := 1000000) only [go_sem, ↓reduceIte, Nat.reduceAdd, Nat.reduceSub, Nat.reduceMul, Nat.reduceLT, Nat.reduceLeDiff, Nat.reduceEqDiff, Nat.reduceBEq, Nat.reduceBNe, Int.reduceToNat, Int.reduceLT, Int.reduceLE, Int.reduceNeg, reduceCtorEq, Int.reduceEq, Int.reduceNe]
  refine AtCode.draw 10 [([], []), ([0], []), ([], []), ([2], []), ([0, 1, 2, 3], []), ([], []), ([5], []), ([], []), ([7], []), ([0, 1, 2, 3, 4, 5, 6, 7, 8], []), ([0, 1, 2, 3, 4, 5, 6, 7, 8, 9], []), ([0, 1, 2, 3, 4, 5, 6, 7, 8, 9, 10], []), ([0, 1, 2, 3, 4, 5, 6, 7, 8, 9, 10, 11], [])] (by kernel_rfl) ?_
  simp -dsimp -implicitDefEqProofs (maxSteps := 1000000) only [go_sem, ↓reduceIte, Nat.reduceAdd, Nat.reduceSub, Nat.reduceMul, Nat.reduceLT, Nat.reduceLeDiff, Nat.reduceEqDiff, Nat.reduceBEq, Nat.reduceBNe, Int.reduceToNat, Int.reduceLT, Int.reduceLE, Int.reduceNeg, reduceCtorEq, Int.reduceEq, Int.reduceNe]
  refine QFn.use _ (compare _ _) (by simp -dsimp -implicitDefEqProofs (maxSteps := 1000000) only [go_sem, ↓reduceIte, Nat.reduceAdd, Nat.reduceSub, Nat.reduceMul, Nat.reduceLT, Nat.reduceLeDiff, Nat.reduceEqDiff, Nat.reduceBEq, Nat.reduceBNe, Int.reduceToNat, Int.reduceLT, Int.reduceLE, Int.reduceNeg, reduceCtorEq, Int.reduceEq, Int.reduceNe]) ?_
  simp -dsimp -implicitDefEqProofs (maxSteps := 1000000) only [go_sem, ↓reduceIte, Nat.reduceAdd, Nat.reduceSub, Nat.reduceMul, Nat.reduceLT, Nat.reduceLeDiff, Nat.reduceEqDiff, Nat.reduceBEq, Nat.reduceBNe, Int.reduceToNat, Int.reduceLT, Int.reduceLE, Int.reduceNeg, reduceCtorEq, Int.reduceEq, Int.reduceNe]
  refine QFn.use _ (compare _ _) (by simp -dsimp -implicitDefEqProofs (maxSteps := 1000000) only [go_sem, ↓reduceIte, Nat.reduceAdd, Nat.reduceSub, Nat.reduceMul, Nat.reduceLT, Nat.reduceLeDiff, Nat.reduceEqDiff, Nat.reduceBEq, Nat.reduceBNe, Int.reduceToNat, Int.reduceLT, Int.reduceLE, Int.reduceNeg, reduceCtorEq, Int.reduceEq, Int.reduceNe]) ?_
  simp -dsimp -implicitDefEqProofs (maxSteps := 1000000) only [go_sem, ↓reduceIte, Nat.reduceAdd, Nat.reduceSub, Nat.reduceMul, Nat.reduceLT, Nat.reduceLeDiff, Nat.reduceEqDiff, Nat.reduceBEq, Nat.reduceBNe, Int.reduceToNat, Int.reduceLT, Int.reduceLE, Int.reduceNeg, reduceCtorEq, Int.reduceEq, Int.reduceNe]
  refine AtFn.pure (or2 (cmpZ a.f b.f) (cmpZ a.n b.n)) ?_
  simp -dsimp -implicitDefEqProofs (maxSteps := 1000000) only [go_sem, ↓reduceIte, Nat.reduceAdd, Nat.reduceSub, Nat.reduceMul, Nat.reduceLT, Nat.reduceLeDiff, Nat.reduceEqDiff, Nat.reduceBEq, Nat.reduceBNe, Int.reduceToNat, Int.reduceLT, Int.reduceLE, Int.reduceNeg, reduceCtorEq, Int.reduceEq, Int.reduceNe]
  exact ⟨rfl, rfl⟩
def zR : Ru := ⟨0, 0, 0, 0⟩
theorem getR {l : List Ru} {i : Nat} (h : i < l.length) : l[i]? = some (l.getD i zR) := by simp [List.getD, h]
/-- Rising. -/
def rise (l : List Ru) : Bool := decide (∀ j, j < l.length → 1 ≤ j → cmpP (l.getD (j - 1) zR) (l.getD j zR) < 0)
theorem rising (l : List Ru) (hl : l.length < 2 ^ 62) : PFun Try.prog 62 [Rus l, .fn 63 []] (Bo (rise l)) := by
  refine PFun.intro 400 mixed Try.func62 (by kernel_rfl) rfl (by first | exact .v _ | (simp [Cl_v, Cl_t, Cl_g, Cl_fn, Cl_rp, Cl_ro]; done) | (simp [Cl_v, Cl_t, Cl_g, Cl_fn, Cl_rp, Cl_ro, or_imp, forall_and]; done) | (split <;> simp [Cl_v, Cl_t, Cl_g, Cl_fn, Cl_rp, Cl_ro])) (Nat.le_of_ble_eq_true rfl) ?_; rw [Try.ntmps62, Try.results62]
  simp -dsimp -implicitDefEqProofs (maxSteps := 1000000) only [go_sem, ↓reduceIte, Nat.reduceAdd, Nat.reduceSub, Nat.reduceMul, Nat.reduceLT, Nat.reduceLeDiff, Nat.reduceEqDiff, Nat.reduceBEq, Nat.reduceBNe, Int.reduceToNat, Int.reduceLT, Int.reduceLE, Int.reduceNeg, reduceCtorEq, Int.reduceEq, Int.reduceNe, List.length_map]
  refine ⟨{i : Nat // 1 ≤ i ∧ ∀ j, j < i → j < l.length → 1 ≤ j → cmpP (l.getD (j - 1) zR) (l.getD j zR) < 0}, fun i => ⟨24, tl [(0, Rus l), (1, .fn 63 []), (5, I i.1)], [], 0, .nil⟩, fun i => l.length - i.1,
    ⟨⟨1, by omega, by intro j h; omega⟩, Le.tl (Ls := []) (y := none) [] ?_ (by simp) (by simp) (by simp) trivial⟩, fun i => ?_⟩
  · simp -dsimp -implicitDefEqProofs (maxSteps := 1000000) only [go_sem, ↓reduceIte, Nat.reduceAdd, Nat.reduceSub, Nat.reduceMul, Nat.reduceLT, Nat.reduceLeDiff, Nat.reduceEqDiff, Nat.reduceBEq, Nat.reduceBNe, Int.reduceToNat, Int.reduceLT, Int.reduceLE, Int.reduceNeg, reduceCtorEq, Int.reduceEq, Int.reduceNe]
    exact .cl (by simp [Cl_fn])
  · obtain ⟨i, hi, hall⟩ := i
    simp -dsimp -implicitDefEqProofs (maxSteps := 1000000) only [go_sem, ↓reduceIte, Nat.reduceAdd, Nat.reduceSub, Nat.reduceMul, Nat.reduceLT, Nat.reduceLeDiff, Nat.reduceEqDiff, Nat.reduceBEq, Nat.reduceBNe, Int.reduceToNat, Int.reduceLT, Int.reduceLE, Int.reduceNeg, reduceCtorEq, Int.reduceEq, Int.reduceNe, List.length_map]
    refine ⟨fun h => ?_, fun h => ?_⟩
    · have hlt : i < l.length := by omega
      have e1 : wr ((i : Int) - 1) = ((i - 1 : Nat) : Int) := by rw [wr_in] <;> omega
      refine AtCode.draw 12 [([], []), ([], []), ([], []), ([2], []), ([1, 2, 3], []), ([1, 2, 3, 4], []), ([], []), ([], []), ([6, 7], []), ([6, 7, 8], []), ([0, 1, 2, 3, 4, 5, 6, 7, 8, 9], []), ([0, 1, 2, 3, 4, 5, 6, 7, 8, 9, 10], [])] (by kernel_rfl) ?_
      simp -dsimp -implicitDefEqProofs (maxSteps := 1000000) only [go_sem, ↓reduceIte, Nat.reduceAdd, Nat.reduceSub, Nat.reduceMul, Nat.reduceLT, Nat.reduceLeDiff, Nat.reduceEqDiff, Nat.reduceBEq, Nat.reduceBNe, Int.reduceToNat, Int.reduceLT, Int.reduceLE, Int.reduceNeg, reduceCtorEq, Int.reduceEq, Int.reduceNe, List.getElem?_map, Int.toNat_natCast, Int.natCast_nonneg, e1, getR hlt, getR (show i - 1 < l.length by omega)]
      refine QFn.use _ (comparePairs _ _) (by simp -dsimp -implicitDefEqProofs (maxSteps := 1000000) only [go_sem, ↓reduceIte, Nat.reduceAdd, Nat.reduceSub, Nat.reduceMul, Nat.reduceLT, Nat.reduceLeDiff, Nat.reduceEqDiff, Nat.reduceBEq, Nat.reduceBNe, Int.reduceToNat, Int.reduceLT, Int.reduceLE, Int.reduceNeg, reduceCtorEq, Int.reduceEq, Int.reduceNe]) ?_
      simp -dsimp -implicitDefEqProofs (maxSteps := 1000000) only [go_sem, ↓reduceIte, Nat.reduceAdd, Nat.reduceSub, Nat.reduceMul, Nat.reduceLT, Nat.reduceLeDiff, Nat.reduceEqDiff, Nat.reduceBEq, Nat.reduceBNe, Int.reduceToNat, Int.reduceLT, Int.reduceLE, Int.reduceNeg, reduceCtorEq, Int.reduceEq, Int.reduceNe]
      refine ⟨fun hc => ?_, fun hc => ?_⟩
      · have hr : rise l = false := by
          simp only [rise, decide_eq_false_iff_not]
          intro hh
          have := hh i hlt hi
          omega
        rw [hr]
      · refine ⟨⟨i + 1, by omega, fun j hj hjl h1 => ?_⟩, by show l.length - (i + 1) < l.length - i; omega, Le.tl (Ls := []) (y := none) [] ?_ (by simp) (by simp) (by simp) trivial⟩
        · by_cases hji : j = i
          · subst hji; omega
          · exact hall j (by omega) hjl h1
        · simp -dsimp -implicitDefEqProofs (maxSteps := 1000000) only [go_sem, ↓reduceIte, Nat.reduceAdd, Nat.reduceSub, Nat.reduceMul, Nat.reduceLT, Nat.reduceLeDiff, Nat.reduceEqDiff, Nat.reduceBEq, Nat.reduceBNe, Int.reduceToNat, Int.reduceLT, Int.reduceLE, Int.reduceNeg, reduceCtorEq, Int.reduceEq, Int.reduceNe]
          refine ⟨.cl (by simp [Cl_fn]), ?_⟩
          rw [wr_in (by omega) (by omega)]
          rfl
    · have hr : rise l = true := by
        simp only [rise, decide_eq_true_eq]
        exact fun j hj h1 => hall j (by omega) hj h1
      rw [hr]
end

section
set_option maxRecDepth 20000
attribute [local go_sem] clRusL
def validR (l : List Ru) : Bool := decide (l.length ≤ 500) && l.all okR && rise l
theorem validRules (l : List Ru) (hl : l.length < 2 ^ 62) : PFun Try.prog 40 [Rus l] (Bo (validR l)) := by
  refine PFun.intro 400 mixed Try.func40 (by kernel_rfl) rfl (by first | exact .v _ | (simp [Cl_v, Cl_t, Cl_g, Cl_fn, Cl_rp, Cl_ro]; done) | (simp [Cl_v, Cl_t, Cl_g, Cl_fn, Cl_rp, Cl_ro, or_imp, forall_and]; done) | (split <;> simp [Cl_v, Cl_t, Cl_g, Cl_fn, Cl_rp, Cl_ro])) (Nat.le_of_ble_eq_true rfl) ?_; rw [Try.ntmps40, Try.results40]
  simp -dsimp -implicitDefEqProofs (maxSteps := 1000000) only [go_sem, ↓reduceIte, Nat.reduceAdd, Nat.reduceSub, Nat.reduceMul, Nat.reduceLT, Nat.reduceLeDiff, Nat.reduceEqDiff, Nat.reduceBEq, Nat.reduceBNe, Int.reduceToNat, Int.reduceLT, Int.reduceLE, Int.reduceNeg, reduceCtorEq, Int.reduceEq, Int.reduceNe, List.length_map]
  refine ⟨fun h => ?_, fun h => ?_⟩
  · refine AtFn.pure0 (allR 61 okR isRule l hl) ?_
    simp -dsimp -implicitDefEqProofs (maxSteps := 1000000) only [go_sem, ↓reduceIte, Nat.reduceAdd, Nat.reduceSub, Nat.reduceMul, Nat.reduceLT, Nat.reduceLeDiff, Nat.reduceEqDiff, Nat.reduceBEq, Nat.reduceBNe, Int.reduceToNat, Int.reduceLT, Int.reduceLE, Int.reduceNeg, reduceCtorEq, Int.reduceEq, Int.reduceNe]
    refine ⟨fun h2 => ?_, fun h2 => ?_⟩
    · simp -dsimp -implicitDefEqProofs (maxSteps := 1000000) only [go_sem, ↓reduceIte, Nat.reduceAdd, Nat.reduceSub, Nat.reduceMul, Nat.reduceLT, Nat.reduceLeDiff, Nat.reduceEqDiff, Nat.reduceBEq, Nat.reduceBNe, Int.reduceToNat, Int.reduceLT, Int.reduceLE, Int.reduceNeg, reduceCtorEq, Int.reduceEq, Int.reduceNe]
      refine AtFn.pure0 (rising l hl) ?_
      simp -dsimp -implicitDefEqProofs (maxSteps := 1000000) only [go_sem, ↓reduceIte, Nat.reduceAdd, Nat.reduceSub, Nat.reduceMul, Nat.reduceLT, Nat.reduceLeDiff, Nat.reduceEqDiff, Nat.reduceBEq, Nat.reduceBNe, Int.reduceToNat, Int.reduceLT, Int.reduceLE, Int.reduceNeg, reduceCtorEq, Int.reduceEq, Int.reduceNe]
      have : l.length ≤ 500 := by omega
      simp [validR, h2, this]
    · simp -dsimp -implicitDefEqProofs (maxSteps := 1000000) only [go_sem, ↓reduceIte, Nat.reduceAdd, Nat.reduceSub, Nat.reduceMul, Nat.reduceLT, Nat.reduceLeDiff, Nat.reduceEqDiff, Nat.reduceBEq, Nat.reduceBNe, Int.reduceToNat, Int.reduceLT, Int.reduceLE, Int.reduceNeg, reduceCtorEq, Int.reduceEq, Int.reduceNe]
      simp [validR, h2]
  · have : ¬ l.length ≤ 500 := by omega
    simp [validR, this]
theorem valid17 (l : List Ru) (hl : l.length < 2 ^ 62) : PFun Try.prog 17 [Rus l] (Bo (validR l)) := by
  refine PFun.intro 400 mixed Try.func17 (by kernel_rfl) rfl (by first | exact .v _ | (simp [Cl_v, Cl_t, Cl_g, Cl_fn, Cl_rp, Cl_ro]; done) | (simp [Cl_v, Cl_t, Cl_g, Cl_fn, Cl_rp, Cl_ro, or_imp, forall_and]; done) | (split <;> simp [Cl_v, Cl_t, Cl_g, Cl_fn, Cl_rp, Cl_ro])) (Nat.le_of_ble_eq_true rfl) ?_; rw [Try.ntmps17, Try.results17]
  simp -dsimp -implicitDefEqProofs (maxSteps := 1000000) only [go_sem, ↓reduceIte, Nat.reduceAdd, Nat.reduceSub, Nat.reduceMul, Nat.reduceLT, Nat.reduceLeDiff, Nat.reduceEqDiff, Nat.reduceBEq, Nat.reduceBNe, Int.reduceToNat, Int.reduceLT, Int.reduceLE, Int.reduceNeg, reduceCtorEq, Int.reduceEq, Int.reduceNe]
  refine AtFn.pure0 (validRules l hl) ?_
  simp -dsimp -implicitDefEqProofs (maxSteps := 1000000) only [go_sem, ↓reduceIte, Nat.reduceAdd, Nat.reduceSub, Nat.reduceMul, Nat.reduceLT, Nat.reduceLeDiff, Nat.reduceEqDiff, Nat.reduceBEq, Nat.reduceBNe, Int.reduceToNat, Int.reduceLT, Int.reduceLE, Int.reduceNeg, reduceCtorEq, Int.reduceEq, Int.reduceNe]
theorem okR_iff (r : Ru) : okR r = true ↔ (0 ≤ r.f ∧ r.f ≤ 255) ∧ (0 ≤ r.n ∧ r.n ≤ 255) ∧ 0 ≤ r.o ∧ r.o ≤ 4 ∧ (if r.o = 0 then inCoord r.v else inCode r.v) = true := by
  simp only [okR, inCode, Bool.and_eq_true, decide_eq_true_eq, and_assoc]
theorem pair_cmp (a b : Ru) (ha : okR a = true) (hb : okR b = true) : pairW a = 256 * a.f + a.n ∧ (pairW a < pairW b ↔ cmpP a b < 0) := by
  obtain ⟨a1, a2, _⟩ := (okR_iff a).1 ha
  obtain ⟨b1, b2, _⟩ := (okR_iff b).1 hb
  have ea : pairW a = 256 * a.f + a.n := by
    unfold pairW; rw [wr_in (x := 256 * a.f) (by omega) (by omega), wr_in (by omega) (by omega)]
  have eb : pairW b = 256 * b.f + b.n := by
    unfold pairW; rw [wr_in (x := 256 * b.f) (by omega) (by omega), wr_in (by omega) (by omega)]
  refine ⟨ea, ?_⟩
  rw [ea, eb]
  unfold cmpP orZ cmpZ
  repeat' split
  all_goals omega
theorem rules41 (l : List Ru) (hl : l.length < 2 ^ 62) : PFun Try.prog 41 [Rus l] (Bo (validR l)) := by
  refine PFun.intro 400 mixed Try.func41 (by kernel_rfl) rfl (by first | exact .v _ | (simp [Cl_v, Cl_t, Cl_g, Cl_fn, Cl_rp, Cl_ro]; done) | (simp [Cl_v, Cl_t, Cl_g, Cl_fn, Cl_rp, Cl_ro, or_imp, forall_and]; done) | (split <;> simp [Cl_v, Cl_t, Cl_g, Cl_fn, Cl_rp, Cl_ro])) (Nat.le_of_ble_eq_true rfl) ?_; rw [Try.ntmps41, Try.results41]
  simp -dsimp -implicitDefEqProofs (maxSteps := 1000000) only [go_sem, ↓reduceIte, Nat.reduceAdd, Nat.reduceSub, Nat.reduceMul, Nat.reduceLT, Nat.reduceLeDiff, Nat.reduceEqDiff, Nat.reduceBEq, Nat.reduceBNe, Int.reduceToNat, Int.reduceLT, Int.reduceLE, Int.reduceNeg, reduceCtorEq, Int.reduceEq, Int.reduceNe, List.length_map]
  refine ⟨{i : Nat // i ≤ l.length ∧ ∀ j, j < i → okR (l.getD j zR) = true ∧ (1 ≤ j → cmpP (l.getD (j - 1) zR) (l.getD j zR) < 0)}, fun i => ⟨34, tl [(0, Rus l), (5, Rus l), (6, I l.length), (7, I i.1)], [], 0, .nil⟩, fun i => l.length - i.1,
    ⟨⟨0, by omega, by intro j h; omega⟩, Le.tl (Ls := []) (y := none) [] ?_ (by simp) (by simp) (by simp) trivial⟩, fun i => ?_⟩
  · simp -dsimp -implicitDefEqProofs (maxSteps := 1000000) only [go_sem, ↓reduceIte, Nat.reduceAdd, Nat.reduceSub, Nat.reduceMul, Nat.reduceLT, Nat.reduceLeDiff, Nat.reduceEqDiff, Nat.reduceBEq, Nat.reduceBNe, Int.reduceToNat, Int.reduceLT, Int.reduceLE, Int.reduceNeg, reduceCtorEq, Int.reduceEq, Int.reduceNe]
  · obtain ⟨i, hi, hall⟩ := i
    simp -dsimp -implicitDefEqProofs (maxSteps := 1000000) only [go_sem, ↓reduceIte, Nat.reduceAdd, Nat.reduceSub, Nat.reduceMul, Nat.reduceLT, Nat.reduceLeDiff, Nat.reduceEqDiff, Nat.reduceBEq, Nat.reduceBNe, Int.reduceToNat, Int.reduceLT, Int.reduceLE, Int.reduceNeg, reduceCtorEq, Int.reduceEq, Int.reduceNe, List.length_map]
    refine ⟨fun h => ?_, fun h => ?_⟩
    · have hlt : i < l.length := by omega
      simp -dsimp -implicitDefEqProofs (maxSteps := 1000000) only [go_sem, ↓reduceIte, Nat.reduceAdd, Nat.reduceSub, Nat.reduceMul, Nat.reduceLT, Nat.reduceLeDiff, Nat.reduceEqDiff, Nat.reduceBEq, Nat.reduceBNe, Int.reduceToNat, Int.reduceLT, Int.reduceLE, Int.reduceNeg, reduceCtorEq, Int.reduceEq, Int.reduceNe, List.getElem?_map, Int.toNat_natCast, Int.natCast_nonneg, getR hlt]
      refine AtCode.draw 18 [([], []), ([0], []), ([0, 1], []), ([0, 1, 2], []), ([0, 1, 2, 3], []), ([0, 1, 2, 3, 4], []), ([0, 1, 2, 3, 4, 5], []), ([0, 1, 2, 3, 4, 5, 6], []), ([0, 1, 2, 3, 4, 5, 6], []), ([0, 1, 2, 3, 4, 5, 6, 8], []), ([0, 1, 2, 3, 4, 5, 6, 7, 8, 9], []), ([0, 1, 2, 3, 4, 5, 6, 7, 8, 9, 10], []), ([0, 1, 2, 3, 4, 5, 6, 7, 8, 9, 10, 11], []), ([0, 1, 2, 3, 4, 5, 6], []), ([0, 1, 2, 3, 4, 5, 6, 7, 8, 9, 10, 11, 12, 13], []), ([0, 1, 2, 3, 4, 5, 6, 7, 8, 9, 10, 11, 12, 13, 14], []), ([0, 1, 2, 3, 4, 5, 6, 7, 8, 9, 10, 11, 12, 13, 14, 15], []), ([0, 1, 2, 3, 4, 5, 6, 7, 8, 9, 10, 11, 12, 13, 14, 15, 16], [])] (by kernel_rfl) ?_
      simp -dsimp -implicitDefEqProofs (maxSteps := 1000000) only [go_sem, ↓reduceIte, Nat.reduceAdd, Nat.reduceSub, Nat.reduceMul, Nat.reduceLT, Nat.reduceLeDiff, Nat.reduceEqDiff, Nat.reduceBEq, Nat.reduceBNe, Int.reduceToNat, Int.reduceLT, Int.reduceLE, Int.reduceNeg, reduceCtorEq, Int.reduceEq, Int.reduceNe]
      refine QFn.use _ (rRule _) (by simp -dsimp -implicitDefEqProofs (maxSteps := 1000000) only [go_sem, ↓reduceIte, Nat.reduceAdd, Nat.reduceSub, Nat.reduceMul, Nat.reduceLT, Nat.reduceLeDiff, Nat.reduceEqDiff, Nat.reduceBEq, Nat.reduceBNe, Int.reduceToNat, Int.reduceLT, Int.reduceLE, Int.reduceNeg, reduceCtorEq, Int.reduceEq, Int.reduceNe]) ?_
      simp -dsimp -implicitDefEqProofs (maxSteps := 1000000) only [go_sem, ↓reduceIte, Nat.reduceAdd, Nat.reduceSub, Nat.reduceMul, Nat.reduceLT, Nat.reduceLeDiff, Nat.reduceEqDiff, Nat.reduceBEq, Nat.reduceBNe, Int.reduceToNat, Int.reduceLT, Int.reduceLE, Int.reduceNeg, reduceCtorEq, Int.reduceEq, Int.reduceNe]
      have hno : okR (l.getD i zR) = false → validR l = false := by
        intro hk
        have : l.all okR = false := by
          rw [List.all_eq_false]
          exact ⟨_, List.mem_of_getElem? (getR hlt), by simp only [hk]; simp⟩
        simp [validR, this]
      cases hk : okR (l.getD i zR)
      · simp -dsimp -implicitDefEqProofs (maxSteps := 1000000) only [go_sem, ↓reduceIte, Nat.reduceAdd, Nat.reduceSub, Nat.reduceMul, Nat.reduceLT, Nat.reduceLeDiff, Nat.reduceEqDiff, Nat.reduceBEq, Nat.reduceBNe, Int.reduceToNat, Int.reduceLT, Int.reduceLE, Int.reduceNeg, reduceCtorEq, Int.reduceEq, Int.reduceNe]
        rw [hno hk]
      · simp -dsimp -implicitDefEqProofs (maxSteps := 1000000) only [go_sem, ↓reduceIte, Nat.reduceAdd, Nat.reduceSub, Nat.reduceMul, Nat.reduceLT, Nat.reduceLeDiff, Nat.reduceEqDiff, Nat.reduceBEq, Nat.reduceBNe, Int.reduceToNat, Int.reduceLT, Int.reduceLE, Int.reduceNeg, reduceCtorEq, Int.reduceEq, Int.reduceNe]
        refine ⟨fun h0 => ?_, fun h0 => ?_⟩
        · have e1 : wr ((i : Int) - 1) = ((i - 1 : Nat) : Int) := by rw [wr_in] <;> omega
          have hpc := pair_cmp (l.getD (i - 1) zR) (l.getD i zR) (hall (i - 1) (by omega)).1 hk
          simp -dsimp -implicitDefEqProofs (maxSteps := 1000000) only [go_sem, ↓reduceIte, Nat.reduceAdd, Nat.reduceSub, Nat.reduceMul, Nat.reduceLT, Nat.reduceLeDiff, Nat.reduceEqDiff, Nat.reduceBEq, Nat.reduceBNe, Int.reduceToNat, Int.reduceLT, Int.reduceLE, Int.reduceNeg, reduceCtorEq, Int.reduceEq, Int.reduceNe, List.getElem?_map, Int.toNat_natCast, Int.natCast_nonneg, e1, getR (show i - 1 < l.length by omega)]
          refine QFn.use _ (rPair _) (by simp -dsimp -implicitDefEqProofs (maxSteps := 1000000) only [go_sem, ↓reduceIte, Nat.reduceAdd, Nat.reduceSub, Nat.reduceMul, Nat.reduceLT, Nat.reduceLeDiff, Nat.reduceEqDiff, Nat.reduceBEq, Nat.reduceBNe, Int.reduceToNat, Int.reduceLT, Int.reduceLE, Int.reduceNeg, reduceCtorEq, Int.reduceEq, Int.reduceNe]) ?_
          simp -dsimp -implicitDefEqProofs (maxSteps := 1000000) only [go_sem, ↓reduceIte, Nat.reduceAdd, Nat.reduceSub, Nat.reduceMul, Nat.reduceLT, Nat.reduceLeDiff, Nat.reduceEqDiff, Nat.reduceBEq, Nat.reduceBNe, Int.reduceToNat, Int.reduceLT, Int.reduceLE, Int.reduceNeg, reduceCtorEq, Int.reduceEq, Int.reduceNe]
          refine QFn.use _ (rPair _) (by simp -dsimp -implicitDefEqProofs (maxSteps := 1000000) only [go_sem, ↓reduceIte, Nat.reduceAdd, Nat.reduceSub, Nat.reduceMul, Nat.reduceLT, Nat.reduceLeDiff, Nat.reduceEqDiff, Nat.reduceBEq, Nat.reduceBNe, Int.reduceToNat, Int.reduceLT, Int.reduceLE, Int.reduceNeg, reduceCtorEq, Int.reduceEq, Int.reduceNe]) ?_
          simp -dsimp -implicitDefEqProofs (maxSteps := 1000000) only [go_sem, ↓reduceIte, Nat.reduceAdd, Nat.reduceSub, Nat.reduceMul, Nat.reduceLT, Nat.reduceLeDiff, Nat.reduceEqDiff, Nat.reduceBEq, Nat.reduceBNe, Int.reduceToNat, Int.reduceLT, Int.reduceLE, Int.reduceNeg, reduceCtorEq, Int.reduceEq, Int.reduceNe]
          refine ⟨fun hc => ?_, fun hc => ?_⟩
          · have hr : rise l = false := by
              simp only [rise, decide_eq_false_iff_not]
              intro hh
              have := hh i hlt (by omega)
              have := hpc.2.2 this
              omega
            simp [validR, hr]
          · refine ⟨⟨i + 1, by omega, fun j hj => ?_⟩, by show l.length - (i + 1) < l.length - i; omega, Le.tl (Ls := []) (y := none) [] ?_ (by simp) (by simp) (by simp) trivial⟩
            · by_cases hji : j = i
              · subst hji; exact ⟨hk, fun _ => hpc.2.1 (by omega)⟩
              · exact hall j (by omega)
            · simp -dsimp -implicitDefEqProofs (maxSteps := 1000000) only [go_sem, ↓reduceIte, Nat.reduceAdd, Nat.reduceSub, Nat.reduceMul, Nat.reduceLT, Nat.reduceLeDiff, Nat.reduceEqDiff, Nat.reduceBEq, Nat.reduceBNe, Int.reduceToNat, Int.reduceLT, Int.reduceLE, Int.reduceNeg, reduceCtorEq, Int.reduceEq, Int.reduceNe]
              rw [wr_in (by omega) (by omega)]
              rfl
        · refine ⟨⟨i + 1, by omega, fun j hj => ?_⟩, by show l.length - (i + 1) < l.length - i; omega, Le.tl (Ls := []) (y := none) [] ?_ (by simp) (by simp) (by simp) trivial⟩
          · by_cases hji : j = i
            · subst hji; exact ⟨hk, fun h1 => by omega⟩
            · exact hall j (by omega)
          · simp -dsimp -implicitDefEqProofs (maxSteps := 1000000) only [go_sem, ↓reduceIte, Nat.reduceAdd, Nat.reduceSub, Nat.reduceMul, Nat.reduceLT, Nat.reduceLeDiff, Nat.reduceEqDiff, Nat.reduceBEq, Nat.reduceBNe, Int.reduceToNat, Int.reduceLT, Int.reduceLE, Int.reduceNeg, reduceCtorEq, Int.reduceEq, Int.reduceNe]
            rw [wr_in (by omega) (by omega)]
            rfl
    · have hi' : i = l.length := by omega
      subst hi'
      have ha : l.all okR = true := by
        rw [List.all_eq_true]
        intro r hr
        obtain ⟨j, hj⟩ := List.getElem?_of_mem hr
        have hj' := (List.getElem?_eq_some_iff.1 hj).1
        have := (hall j hj').1
        rw [getR hj'] at hj; cases hj; exact this
      have hr : rise l = true := by
        simp only [rise, decide_eq_true_eq]
        exact fun j hj h1 => (hall j hj).2 h1
      have e : decide ((l.length : Int) ≤ 500) = decide (l.length ≤ 500) := by congr 1; simp; omega
      simp only [validR, ha, hr, Bool.and_true, e]
end

section
set_option maxRecDepth 20000
attribute [local go_sem] clRusL
def hit (a b : Int) (r : Ru) : Bool := decide (r.f = a) && decide (r.n = b)
/-- The rule of a pair. -/
def ruleOf (l : List Ru) (a b : Int) : Option Ru := l.find? (hit a b)
theorem ruleOf_some {l : List Ru} {a b : Int} {i : Nat} (hi : i < l.length) (h : hit a b (l.getD i zR) = true) (hn : ∀ j, j < i → hit a b (l.getD j zR) = false) : ruleOf l a b = some (l.getD i zR) := by
  unfold ruleOf
  rw [List.find?_eq_some_iff_getElem]
  have e : l[i] = l.getD i zR := by simp [List.getD, hi]
  exact ⟨h, i, hi, e, fun j hj => by have := hn j hj; simpa [List.getD, show j < l.length by omega] using this⟩
theorem ruleOf_none {l : List Ru} {a b : Int} (hn : ∀ j, j < l.length → hit a b (l.getD j zR) = false) : ruleOf l a b = none := by
  unfold ruleOf
  rw [List.find?_eq_none]
  intro r hr
  obtain ⟨j, hj, rfl⟩ := List.getElem_of_mem hr
  have := hn j hj
  simp [List.getD, hj] at this
  simpa using this
abbrev RoA (o : Option Ru) : AV := .t [RuA (o.getD zR), Bo o.isSome]
end

section
set_option maxRecDepth 20000
attribute [local go_sem] clRusL
def tg (a b : Int) : Ru := ⟨a, b, 0, 0⟩
theorem cmpP_neg (a b : Ru) : cmpP a b < 0 ↔ a.f < b.f ∨ (a.f = b.f ∧ a.n < b.n) := by
  unfold cmpP orZ cmpZ
  repeat' split
  all_goals omega
theorem cmpP_zero (a b : Ru) : cmpP a b = 0 ↔ a.f = b.f ∧ a.n = b.n := by
  unfold cmpP orZ cmpZ
  repeat' split
  all_goals omega
theorem rise_lt {l : List Ru} (h : rise l = true) : ∀ j i, i < j → j < l.length → cmpP (l.getD i zR) (l.getD j zR) < 0 := by
  simp only [rise, decide_eq_true_eq] at h
  intro j
  induction j with
  | zero => intro i hi; omega
  | succ j ih =>
    intro i hi hj
    have h1 := h (j + 1) hj (by omega)
    simp only [Nat.add_sub_cancel] at h1
    by_cases hij : i = j
    · subst hij; exact h1
    · have h2 := ih i (by omega) (by omega)
      rw [cmpP_neg] at h1 h2 ⊢
      omega
theorem mid_eq (lo hi : Nat) (h : lo ≤ hi) (h2 : hi < 2 ^ 40) : wr ((IntKind.u64.wrap (wr ((lo : Int) + (hi : Int)))).fdiv (2 ^ min 1 64)) = (((lo + hi) / 2 : Nat) : Int) := by
  have e0 : wr ((lo : Int) + (hi : Int)) = ((lo + hi : Nat) : Int) := by rw [wr_in (by omega) (by omega)]; omega
  have e1 : IntKind.u64.wrap ((lo + hi : Nat) : Int) = ((lo + hi : Nat) : Int) := by
    have : IntKind.u64.wrap ((lo + hi : Nat) : Int) = ((lo + hi : Nat) : Int) % 18446744073709551616 := by simp [IntKind.wrap, IntKind.bits, IntKind.signed]
    rw [this]; omega
  have e2 : (2 : Int) ^ min 1 64 = 2 := by decide
  rw [e0, e1, e2, Int.fdiv_eq_ediv_of_nonneg _ (by omega), wr_in (by omega) (by omega)]
  omega
theorem hit_cmp (a b : Int) (r : Ru) : hit a b r = decide (cmpP r (tg a b) = 0) := by
  rw [Bool.eq_iff_iff]
  simp only [hit, Bool.and_eq_true, decide_eq_true_eq, cmpP_zero, tg]
theorem bs_end {l : List Ru} {a b : Int} {lo : Nat} (hr : rise l = true) (h2 : lo ≤ l.length) (h3 : ∀ j, j < lo → cmpP (l.getD j zR) (tg a b) < 0) (h4 : ∀ j, lo ≤ j → j < l.length → 0 ≤ cmpP (l.getD j zR) (tg a b)) :
    (l.findIdx fun r => decide (0 ≤ cmpP r (tg a b))) = lo ∧ (ruleOf l a b = if lo < l.length ∧ cmpP (l.getD lo zR) (tg a b) = 0 then some (l.getD lo zR) else none) := by
  have hlow : ∀ j, j < lo → hit a b (l.getD j zR) = false := by
    intro j hj
    have := h3 j hj
    rw [hit_cmp, decide_eq_false_iff_not]; omega
  constructor
  · by_cases hlt : lo < l.length
    · rw [List.findIdx_eq hlt]
      have e : ∀ j (h : j < l.length), l[j] = l.getD j zR := fun j h => by simp [List.getD, h]
      refine ⟨by rw [e, decide_eq_true_eq]; exact h4 lo (Nat.le_refl _) hlt, fun j hj => ?_⟩
      rw [e, decide_eq_false_iff_not]
      have := h3 j hj
      omega
    · have : lo = l.length := by omega
      subst this
      rw [List.findIdx_eq_length]
      intro r hrm
      obtain ⟨j, hj⟩ := List.getElem?_of_mem hrm
      have hj' := (List.getElem?_eq_some_iff.1 hj).1
      rw [getR hj'] at hj
      cases hj
      rw [decide_eq_false_iff_not]
      have := h3 j hj'
      omega
  · by_cases hlt : lo < l.length
    · by_cases hc : cmpP (l.getD lo zR) (tg a b) = 0
      · rw [if_pos ⟨hlt, hc⟩]
        exact ruleOf_some hlt (by rw [hit_cmp, decide_eq_true_eq]; exact hc) hlow
      · rw [if_neg (fun h => hc h.2)]
        refine ruleOf_none fun j hj => ?_
        by_cases hjl : j < lo
        · exact hlow j hjl
        · rw [hit_cmp, decide_eq_false_iff_not]
          by_cases hje : j = lo
          · subst hje; exact hc
          · have h5 := rise_lt hr j lo (by omega) hj
            have h6 := h4 lo (Nat.le_refl _) hlt
            intro h7
            rw [cmpP_neg] at h5
            rw [cmpP_zero] at h7 hc
            have h8 : ¬ cmpP (l.getD lo zR) (tg a b) < 0 := by omega
            rw [cmpP_neg] at h8
            omega
    · rw [if_neg (fun h => hlt h.1)]
      exact ruleOf_none fun j hj => hlow j (by omega)
theorem bsearch (l : List Ru) (a b : Int) (hl : l.length < 2 ^ 40) (hr : rise l = true) : PFun Try.prog 84 [Rus l, RuA (tg a b), .fn 63 []] (.t [I (l.findIdx fun r => decide (0 ≤ cmpP r (tg a b))), Bo (ruleOf l a b).isSome]) := by
  refine PFun.intro 400 mixed Try.func84 (by kernel_rfl) rfl (by first | exact .v _ | (simp [Cl_v, Cl_t, Cl_g, Cl_fn, Cl_rp, Cl_ro]; done) | (simp [Cl_v, Cl_t, Cl_g, Cl_fn, Cl_rp, Cl_ro, or_imp, forall_and]; done) | (split <;> simp [Cl_v, Cl_t, Cl_g, Cl_fn, Cl_rp, Cl_ro])) (Nat.le_of_ble_eq_true rfl) ?_; rw [Try.ntmps84, Try.results84]
  simp -dsimp -implicitDefEqProofs (maxSteps := 1000000) only [go_sem, ↓reduceIte, Nat.reduceAdd, Nat.reduceSub, Nat.reduceMul, Nat.reduceLT, Nat.reduceLeDiff, Nat.reduceEqDiff, Nat.reduceBEq, Nat.reduceBNe, Int.reduceToNat, Int.reduceLT, Int.reduceLE, Int.reduceNeg, reduceCtorEq, Int.reduceEq, Int.reduceNe, List.length_map]
  refine ⟨{p : Nat × Nat // p.1 ≤ p.2 ∧ p.2 ≤ l.length ∧ (∀ j, j < p.1 → cmpP (l.getD j zR) (tg a b) < 0) ∧ (∀ j, p.2 ≤ j → j < l.length → 0 ≤ cmpP (l.getD j zR) (tg a b))},
    fun p => ⟨49, tl [(0, Rus l), (2, .fn 63 []), (4, .ptr 0 0 0), (8, I l.length), (9, I p.1.1), (10, I p.1.2)], [(0, ⟨4, [[I a, I b, I 0, I 0]]⟩)], 1, .nil⟩, fun p => p.1.2 - p.1.1,
    ⟨⟨(0, l.length), by omega, by omega, by intro j h; omega, by intro j h h'; omega⟩, Le.tl (Ls := []) (y := none) [] ?_ ?_ (by simp) (by simp [sg]) trivial⟩, fun i => ?_⟩
  · simp -dsimp -implicitDefEqProofs (maxSteps := 1000000) only [go_sem, ↓reduceIte, Nat.reduceAdd, Nat.reduceSub, Nat.reduceMul, Nat.reduceLT, Nat.reduceLeDiff, Nat.reduceEqDiff, Nat.reduceBEq, Nat.reduceBNe, Int.reduceToNat, Int.reduceLT, Int.reduceLE, Int.reduceNeg, reduceCtorEq, Int.reduceEq, Int.reduceNe]
    exact .cl (by simp [Cl_fn])
  · simp -dsimp -implicitDefEqProofs (maxSteps := 1000000) only [go_sem, ↓reduceIte, Nat.reduceAdd, Nat.reduceSub, Nat.reduceMul, Nat.reduceLT, Nat.reduceLeDiff, Nat.reduceEqDiff, Nat.reduceBEq, Nat.reduceBNe, Int.reduceToNat, Int.reduceLT, Int.reduceLE, Int.reduceNeg, reduceCtorEq, Int.reduceEq, Int.reduceNe]
    exact renL_cl rfl (by simp -dsimp -implicitDefEqProofs (maxSteps := 1000000) only [go_sem, ↓reduceIte, Nat.reduceAdd, Nat.reduceSub, Nat.reduceMul, Nat.reduceLT, Nat.reduceLeDiff, Nat.reduceEqDiff, Nat.reduceBEq, Nat.reduceBNe, Int.reduceToNat, Int.reduceLT, Int.reduceLE, Int.reduceNeg, reduceCtorEq, Int.reduceEq, Int.reduceNe])
  · obtain ⟨⟨lo, hi⟩, h1, h2, h3, h4⟩ := i
    simp only at h1 h2 h3 h4
    simp -dsimp -implicitDefEqProofs (maxSteps := 1000000) only [go_sem, ↓reduceIte, Nat.reduceAdd, Nat.reduceSub, Nat.reduceMul, Nat.reduceLT, Nat.reduceLeDiff, Nat.reduceEqDiff, Nat.reduceBEq, Nat.reduceBNe, Int.reduceToNat, Int.reduceLT, Int.reduceLE, Int.reduceNeg, reduceCtorEq, Int.reduceEq, Int.reduceNe, List.length_map]
    refine ⟨fun h => ?_, fun h => ?_⟩
    · have hm := mid_eq lo hi h1 (by omega)
      obtain ⟨m, hmd⟩ : ∃ m, m = (lo + hi) / 2 := ⟨_, rfl⟩
      rw [← hmd] at hm
      have hml : m < l.length := by omega
      have e1 : wr ((m : Int) + 1) = ((m + 1 : Nat) : Int) := by rw [wr_in] <;> omega
      refine AtCode.draw 8 [([], []), ([], []), ([], []), ([1, 2], []), ([1, 2, 3], []), ([], []), ([0, 1, 2, 3, 4, 5], []), ([0, 1, 2, 3, 4, 5, 6], [])] (by kernel_rfl) ?_
      simp -dsimp -implicitDefEqProofs (maxSteps := 1000000) only [go_sem, ↓reduceIte, Nat.reduceAdd, Nat.reduceSub, Nat.reduceMul, Nat.reduceLT, Nat.reduceLeDiff, Nat.reduceEqDiff, Nat.reduceBEq, Nat.reduceBNe, Int.reduceToNat, Int.reduceLT, Int.reduceLE, Int.reduceNeg, reduceCtorEq, Int.reduceEq, Int.reduceNe, hm, List.getElem?_map, Int.toNat_natCast, Int.natCast_nonneg, getR hml]
      refine QFn.use _ (comparePairs (l.getD m zR) (tg a b)) (by simp -dsimp -implicitDefEqProofs (maxSteps := 1000000) only [go_sem, ↓reduceIte, Nat.reduceAdd, Nat.reduceSub, Nat.reduceMul, Nat.reduceLT, Nat.reduceLeDiff, Nat.reduceEqDiff, Nat.reduceBEq, Nat.reduceBNe, Int.reduceToNat, Int.reduceLT, Int.reduceLE, Int.reduceNeg, reduceCtorEq, Int.reduceEq, Int.reduceNe]) ?_
      simp -dsimp -implicitDefEqProofs (maxSteps := 1000000) only [go_sem, ↓reduceIte, Nat.reduceAdd, Nat.reduceSub, Nat.reduceMul, Nat.reduceLT, Nat.reduceLeDiff, Nat.reduceEqDiff, Nat.reduceBEq, Nat.reduceBNe, Int.reduceToNat, Int.reduceLT, Int.reduceLE, Int.reduceNeg, reduceCtorEq, Int.reduceEq, Int.reduceNe, e1]
      refine ⟨fun hc => ?_, fun hc => ?_⟩
      · refine ⟨⟨(m + 1, hi), by show m + 1 ≤ hi; omega, h2, fun j hj => ?_, h4⟩, by show hi - (m + 1) < hi - lo; omega, Le.tl (Ls := []) (y := none) [] ?_ ?_ (by simp) (by simp [sg]) trivial⟩
        · simp only at hj
          by_cases hjm : j = m
          · subst hjm; exact hc
          · have := rise_lt hr m j (by omega) hml
            rw [cmpP_neg] at this hc ⊢
            omega
        · simp -dsimp -implicitDefEqProofs (maxSteps := 1000000) only [go_sem, ↓reduceIte, Nat.reduceAdd, Nat.reduceSub, Nat.reduceMul, Nat.reduceLT, Nat.reduceLeDiff, Nat.reduceEqDiff, Nat.reduceBEq, Nat.reduceBNe, Int.reduceToNat, Int.reduceLT, Int.reduceLE, Int.reduceNeg, reduceCtorEq, Int.reduceEq, Int.reduceNe]
          exact .cl (by simp [Cl_fn])
        · simp -dsimp -implicitDefEqProofs (maxSteps := 1000000) only [go_sem, ↓reduceIte, Nat.reduceAdd, Nat.reduceSub, Nat.reduceMul, Nat.reduceLT, Nat.reduceLeDiff, Nat.reduceEqDiff, Nat.reduceBEq, Nat.reduceBNe, Int.reduceToNat, Int.reduceLT, Int.reduceLE, Int.reduceNeg, reduceCtorEq, Int.reduceEq, Int.reduceNe]
          exact renL_cl rfl (by simp -dsimp -implicitDefEqProofs (maxSteps := 1000000) only [go_sem, ↓reduceIte, Nat.reduceAdd, Nat.reduceSub, Nat.reduceMul, Nat.reduceLT, Nat.reduceLeDiff, Nat.reduceEqDiff, Nat.reduceBEq, Nat.reduceBNe, Int.reduceToNat, Int.reduceLT, Int.reduceLE, Int.reduceNeg, reduceCtorEq, Int.reduceEq, Int.reduceNe])
      · refine ⟨⟨(lo, m), by show lo ≤ m; omega, by show m ≤ l.length; omega, h3, fun j hj hjl => ?_⟩, by show m - lo < hi - lo; omega, Le.tl (Ls := []) (y := none) [] ?_ ?_ (by simp) (by simp [sg]) trivial⟩
        · simp only at hj
          by_cases hjm : j = m
          · subst hjm; omega
          · have := rise_lt hr j m (by omega) hjl
            have hn : ¬ cmpP (l.getD j zR) (tg a b) < 0 := by
              rw [cmpP_neg] at this ⊢
              have hc' := hc
              rw [cmpP_neg] at hc'
              omega
            omega
        · simp -dsimp -implicitDefEqProofs (maxSteps := 1000000) only [go_sem, ↓reduceIte, Nat.reduceAdd, Nat.reduceSub, Nat.reduceMul, Nat.reduceLT, Nat.reduceLeDiff, Nat.reduceEqDiff, Nat.reduceBEq, Nat.reduceBNe, Int.reduceToNat, Int.reduceLT, Int.reduceLE, Int.reduceNeg, reduceCtorEq, Int.reduceEq, Int.reduceNe]
          exact .cl (by simp [Cl_fn])
        · simp -dsimp -implicitDefEqProofs (maxSteps := 1000000) only [go_sem, ↓reduceIte, Nat.reduceAdd, Nat.reduceSub, Nat.reduceMul, Nat.reduceLT, Nat.reduceLeDiff, Nat.reduceEqDiff, Nat.reduceBEq, Nat.reduceBNe, Int.reduceToNat, Int.reduceLT, Int.reduceLE, Int.reduceNeg, reduceCtorEq, Int.reduceEq, Int.reduceNe]
          exact renL_cl rfl (by simp -dsimp -implicitDefEqProofs (maxSteps := 1000000) only [go_sem, ↓reduceIte, Nat.reduceAdd, Nat.reduceSub, Nat.reduceMul, Nat.reduceLT, Nat.reduceLeDiff, Nat.reduceEqDiff, Nat.reduceBEq, Nat.reduceBNe, Int.reduceToNat, Int.reduceLT, Int.reduceLE, Int.reduceNeg, reduceCtorEq, Int.reduceEq, Int.reduceNe])
    · have hlh : hi = lo := by omega
      subst hlh
      obtain ⟨b1, b2⟩ := bs_end hr h2 h3 h4
      rw [b1, b2]
      refine AtCode.draw 16 [([], []), ([], []), ([], []), ([1, 2], []), ([1, 2, 3], []), ([1, 2, 3, 4], []), ([1, 2, 3, 4], []), ([1, 2, 3, 4], []), ([1, 2, 3, 4, 6, 7], []), ([1, 2, 3, 4, 6, 7, 8], []), ([1, 2, 3, 4], []), ([1, 2, 3, 4, 5, 6, 7, 8, 9, 10], []), ([1, 2, 3, 4, 5, 6, 7, 8, 9, 10, 11], []), ([1, 2, 3, 4, 5, 6, 7, 8, 9, 10, 11, 12], []), ([0, 1, 2, 3, 4, 5, 6, 7, 8, 9, 10, 11], []), ([0, 1, 2, 3, 4, 5, 6, 7, 8, 9, 10, 11, 12, 13, 14], [])] (by kernel_rfl) ?_
      by_cases hlt : hi < l.length
      · have hlt' : (hi : Int) < (l.length : Int) := by omega
        simp -dsimp -implicitDefEqProofs (maxSteps := 1000000) only [go_sem, ↓reduceIte, Nat.reduceAdd, Nat.reduceSub, Nat.reduceMul, Nat.reduceLT, Nat.reduceLeDiff, Nat.reduceEqDiff, Nat.reduceBEq, Nat.reduceBNe, Int.reduceToNat, Int.reduceLT, Int.reduceLE, Int.reduceNeg, reduceCtorEq, Int.reduceEq, Int.reduceNe, List.getElem?_map, Int.toNat_natCast, Int.natCast_nonneg, getR hlt, hlt']
        refine QFn.use _ (comparePairs (l.getD hi zR) (tg a b)) (by simp -dsimp -implicitDefEqProofs (maxSteps := 1000000) only [go_sem, ↓reduceIte, Nat.reduceAdd, Nat.reduceSub, Nat.reduceMul, Nat.reduceLT, Nat.reduceLeDiff, Nat.reduceEqDiff, Nat.reduceBEq, Nat.reduceBNe, Int.reduceToNat, Int.reduceLT, Int.reduceLE, Int.reduceNeg, reduceCtorEq, Int.reduceEq, Int.reduceNe]) ?_
        simp -dsimp -implicitDefEqProofs (maxSteps := 1000000) only [go_sem, ↓reduceIte, Nat.reduceAdd, Nat.reduceSub, Nat.reduceMul, Nat.reduceLT, Nat.reduceLeDiff, Nat.reduceEqDiff, Nat.reduceBEq, Nat.reduceBNe, Int.reduceToNat, Int.reduceLT, Int.reduceLE, Int.reduceNeg, reduceCtorEq, Int.reduceEq, Int.reduceNe]
        by_cases hz : cmpP (l.getD hi zR) (tg a b) = 0
        · rw [if_pos ⟨hlt, hz⟩]; simp only [hz, decide_true, Option.isSome_some]
        · rw [if_neg (fun h => hz h.2)]; simp only [hz, decide_false, Option.isSome_none]
      · have hlt' : ¬ (hi : Int) < (l.length : Int) := by omega
        simp -dsimp -implicitDefEqProofs (maxSteps := 1000000) only [go_sem, ↓reduceIte, Nat.reduceAdd, Nat.reduceSub, Nat.reduceMul, Nat.reduceLT, Nat.reduceLeDiff, Nat.reduceEqDiff, Nat.reduceBEq, Nat.reduceBNe, Int.reduceToNat, Int.reduceLT, Int.reduceLE, Int.reduceNeg, reduceCtorEq, Int.reduceEq, Int.reduceNe, hlt']
        rw [if_neg (fun h => hlt h.1)]; rfl
theorem ruleOf_idx {l : List Ru} {a b : Int} {r : Ru} (hr : rise l = true) (h : ruleOf l a b = some r) : l[l.findIdx fun r => decide (0 ≤ cmpP r (tg a b))]? = some r ∧ (l.findIdx fun r => decide (0 ≤ cmpP r (tg a b))) < l.length := by
  unfold ruleOf at h
  rw [List.find?_eq_some_iff_getElem] at h
  obtain ⟨hh, i, hi, rfl, _⟩ := h
  have e : l[i] = l.getD i zR := by simp [List.getD, hi]
  rw [hit_cmp, decide_eq_true_eq, e] at hh
  have hz := (cmpP_zero _ _).1 hh
  have := bs_end (a := a) (b := b) hr (lo := i) (by omega) (fun j hj => by
    have h5 := rise_lt hr i j hj hi
    rw [cmpP_neg] at h5 ⊢
    omega) (fun j hj hjl => by
    by_cases hje : j = i
    · subst hje; omega
    · have h5 := rise_lt hr j i (by omega) hjl
      have h6 : ¬ cmpP (l.getD j zR) (tg a b) < 0 := by
        rw [cmpP_neg] at h5 ⊢
        omega
      omega)
  rw [this.1]
  exact ⟨List.getElem?_eq_getElem hi, hi⟩
theorem ruleOf59 (l : List Ru) (a b : Int) (hl : l.length < 2 ^ 40) (hr : rise l = true) : PFun Try.prog 59 [Rus l, I a, I b] (RoA (ruleOf l a b)) := by
  refine PFun.intro 400 mixed Try.func59 (by kernel_rfl) rfl (by first | exact .v _ | (simp [Cl_v, Cl_t, Cl_g, Cl_fn, Cl_rp, Cl_ro]; done) | (simp [Cl_v, Cl_t, Cl_g, Cl_fn, Cl_rp, Cl_ro, or_imp, forall_and]; done) | (split <;> simp [Cl_v, Cl_t, Cl_g, Cl_fn, Cl_rp, Cl_ro])) (Nat.le_of_ble_eq_true rfl) ?_; rw [Try.ntmps59, Try.results59]
  simp -dsimp -implicitDefEqProofs (maxSteps := 1000000) only [go_sem, ↓reduceIte, Nat.reduceAdd, Nat.reduceSub, Nat.reduceMul, Nat.reduceLT, Nat.reduceLeDiff, Nat.reduceEqDiff, Nat.reduceBEq, Nat.reduceBNe, Int.reduceToNat, Int.reduceLT, Int.reduceLE, Int.reduceNeg, reduceCtorEq, Int.reduceEq, Int.reduceNe, List.length_map]
  refine AtFn.pure0 (bsearch l a b hl hr) ?_
  simp -dsimp -implicitDefEqProofs (maxSteps := 1000000) only [go_sem, ↓reduceIte, Nat.reduceAdd, Nat.reduceSub, Nat.reduceMul, Nat.reduceLT, Nat.reduceLeDiff, Nat.reduceEqDiff, Nat.reduceBEq, Nat.reduceBNe, Int.reduceToNat, Int.reduceLT, Int.reduceLE, Int.reduceNeg, reduceCtorEq, Int.reduceEq, Int.reduceNe]
  cases h : ruleOf l a b with
  | none =>
    simp -dsimp -implicitDefEqProofs (maxSteps := 1000000) only [go_sem, ↓reduceIte, Nat.reduceAdd, Nat.reduceSub, Nat.reduceMul, Nat.reduceLT, Nat.reduceLeDiff, Nat.reduceEqDiff, Nat.reduceBEq, Nat.reduceBNe, Int.reduceToNat, Int.reduceLT, Int.reduceLE, Int.reduceNeg, reduceCtorEq, Int.reduceEq, Int.reduceNe]
    rfl
  | some r =>
    obtain ⟨h1, h2⟩ := ruleOf_idx hr h
    simp -dsimp -implicitDefEqProofs (maxSteps := 1000000) only [go_sem, ↓reduceIte, Nat.reduceAdd, Nat.reduceSub, Nat.reduceMul, Nat.reduceLT, Nat.reduceLeDiff, Nat.reduceEqDiff, Nat.reduceBEq, Nat.reduceBNe, Int.reduceToNat, Int.reduceLT, Int.reduceLE, Int.reduceNeg, reduceCtorEq, Int.reduceEq, Int.reduceNe, List.getElem?_map, Int.toNat_natCast, Int.natCast_nonneg, h1]
    rfl
end

section
set_option maxRecDepth 20000
theorem clIntsL (l : List Int) : (∀ c ∈ l.map (fun x => [I x]), ∀ s ∈ c, Cl s) ↔ True := iff_true_intro (Cl_ro.1 (clInts l))
attribute [local go_sem] clIntsL
abbrev IA (x : Int) : AV := I x
theorem indexI (g : Nat) (caps : List AV) (hc : ∀ x ∈ caps, Cl x) (p : Int → Bool) (hg : ∀ r, PFun Try.prog g (IA r :: caps) (Bo (p r))) (l : List Int) (hl : l.length < 2 ^ 62) : PFun Try.prog 91 [Ints l, .fn g caps] (I (idx p l)) := by
  have hfn : Cl (.fn g caps) := .fn hc
  refine PFun.intro 400 mixed Try.func91 (by kernel_rfl) rfl (by first | exact .v _ | (simp [Cl_v, Cl_t, Cl_g, Cl_fn, Cl_rp, Cl_ro]; done) | (simp [Cl_v, Cl_t, Cl_g, Cl_fn, Cl_rp, Cl_ro, or_imp, forall_and]; done) | (split <;> simp [Cl_v, Cl_t, Cl_g, Cl_fn, Cl_rp, Cl_ro])) (Nat.le_of_ble_eq_true rfl) ?_; rw [Try.ntmps91, Try.results91]
  simp -dsimp -implicitDefEqProofs (maxSteps := 1000000) only [go_sem, ↓reduceIte, Nat.reduceAdd, Nat.reduceSub, Nat.reduceMul, Nat.reduceLT, Nat.reduceLeDiff, Nat.reduceEqDiff, Nat.reduceBEq, Nat.reduceBNe, Int.reduceToNat, Int.reduceLT, Int.reduceLE, Int.reduceNeg, reduceCtorEq, Int.reduceEq, Int.reduceNe, List.length_map]
  refine ⟨{i : Nat // i ≤ l.length ∧ ∀ j, j < i → ∀ y, l[j]? = some y → p y = false}, fun i => ⟨19, tl [(0, Ints l), (1, .fn g caps), (4, I 0), (7, I l.length), (8, I i.1)], [], 0, .nil⟩, fun i => l.length - i.1,
    ⟨⟨0, by omega, by intro j h; omega⟩, Le.tl (Ls := []) (y := none) [] ?_ (by simp) (by simp) (by simp) trivial⟩, fun i => ?_⟩
  · simp -dsimp -implicitDefEqProofs (maxSteps := 1000000) only [go_sem, ↓reduceIte, Nat.reduceAdd, Nat.reduceSub, Nat.reduceMul, Nat.reduceLT, Nat.reduceLeDiff, Nat.reduceEqDiff, Nat.reduceBEq, Nat.reduceBNe, Int.reduceToNat, Int.reduceLT, Int.reduceLE, Int.reduceNeg, reduceCtorEq, Int.reduceEq, Int.reduceNe]
    exact .cl hfn
  · obtain ⟨i, hi, hall⟩ := i
    simp -dsimp -implicitDefEqProofs (maxSteps := 1000000) only [go_sem, ↓reduceIte, Nat.reduceAdd, Nat.reduceSub, Nat.reduceMul, Nat.reduceLT, Nat.reduceLeDiff, Nat.reduceEqDiff, Nat.reduceBEq, Nat.reduceBNe, Int.reduceToNat, Int.reduceLT, Int.reduceLE, Int.reduceNeg, reduceCtorEq, Int.reduceEq, Int.reduceNe]
    refine ⟨fun h => ?_, fun h => ?_⟩
    · have hlt : i < l.length := by omega
      have hp : l[i]? = some l[i] := List.getElem?_eq_getElem hlt
      simp -dsimp -implicitDefEqProofs (maxSteps := 1000000) only [go_sem, ↓reduceIte, Nat.reduceAdd, Nat.reduceSub, Nat.reduceMul, Nat.reduceLT, Nat.reduceLeDiff, Nat.reduceEqDiff, Nat.reduceBEq, Nat.reduceBNe, Int.reduceToNat, Int.reduceLT, Int.reduceLE, Int.reduceNeg, reduceCtorEq, Int.reduceEq, Int.reduceNe, List.getElem?_map, Int.toNat_natCast, Int.natCast_nonneg, hp]
      refine AtFn.pure0 (hg _) ?_
      simp -dsimp -implicitDefEqProofs (maxSteps := 1000000) only [go_sem, ↓reduceIte, Nat.reduceAdd, Nat.reduceSub, Nat.reduceMul, Nat.reduceLT, Nat.reduceLeDiff, Nat.reduceEqDiff, Nat.reduceBEq, Nat.reduceBNe, Int.reduceToNat, Int.reduceLT, Int.reduceLE, Int.reduceNeg, reduceCtorEq, Int.reduceEq, Int.reduceNe]
      refine ⟨hc, ?_⟩
      cases hb : p l[i]
      · simp -dsimp -implicitDefEqProofs (maxSteps := 1000000) only [go_sem, ↓reduceIte, Nat.reduceAdd, Nat.reduceSub, Nat.reduceMul, Nat.reduceLT, Nat.reduceLeDiff, Nat.reduceEqDiff, Nat.reduceBEq, Nat.reduceBNe, Int.reduceToNat, Int.reduceLT, Int.reduceLE, Int.reduceNeg, reduceCtorEq, Int.reduceEq, Int.reduceNe]
        refine ⟨⟨i + 1, by omega, fun j h' y hy => ?_⟩, by show l.length - (i + 1) < l.length - i; omega, Le.tl (Ls := []) (y := none) [] ?_ (by simp) (by simp) (by simp) trivial⟩
        · by_cases hj : j = i
          · subst hj; rw [hp] at hy; cases hy; exact hb
          · exact hall j (by omega) y hy
        · simp -dsimp -implicitDefEqProofs (maxSteps := 1000000) only [go_sem, ↓reduceIte, Nat.reduceAdd, Nat.reduceSub, Nat.reduceMul, Nat.reduceLT, Nat.reduceLeDiff, Nat.reduceEqDiff, Nat.reduceBEq, Nat.reduceBNe, Int.reduceToNat, Int.reduceLT, Int.reduceLE, Int.reduceNeg, reduceCtorEq, Int.reduceEq, Int.reduceNe]
          refine ⟨.cl hfn, ?_⟩
          rw [wr_in (by omega) (by omega)]
          rfl
      · simp -dsimp -implicitDefEqProofs (maxSteps := 1000000) only [go_sem, ↓reduceIte, Nat.reduceAdd, Nat.reduceSub, Nat.reduceMul, Nat.reduceLT, Nat.reduceLeDiff, Nat.reduceEqDiff, Nat.reduceBEq, Nat.reduceBNe, Int.reduceToNat, Int.reduceLT, Int.reduceLE, Int.reduceNeg, reduceCtorEq, Int.reduceEq, Int.reduceNe]
        rw [idx_some hp hb hall]
    · have hi' : i = l.length := by omega
      subst hi'
      rw [idx_none hall]
theorem containsI (g : Nat) (caps : List AV) (hc : ∀ x ∈ caps, Cl x) (p : Int → Bool) (hg : ∀ r, PFun Try.prog g (IA r :: caps) (Bo (p r))) (l : List Int) (hl : l.length < 2 ^ 62) : PFun Try.prog 66 [Ints l, .fn g caps] (Bo (l.any p)) := by
  refine PFun.intro 400 mixed Try.func66 (by kernel_rfl) rfl (by first | exact .v _ | (simp [Cl_v, Cl_t, Cl_g, Cl_fn, Cl_rp, Cl_ro]; done) | (simp [Cl_v, Cl_t, Cl_g, Cl_fn, Cl_rp, Cl_ro, or_imp, forall_and]; done) | (split <;> simp [Cl_v, Cl_t, Cl_g, Cl_fn, Cl_rp, Cl_ro])) (Nat.le_of_ble_eq_true rfl) ?_; rw [Try.ntmps66, Try.results66]
  simp -dsimp -implicitDefEqProofs (maxSteps := 1000000) only [go_sem, ↓reduceIte, Nat.reduceAdd, Nat.reduceSub, Nat.reduceMul, Nat.reduceLT, Nat.reduceLeDiff, Nat.reduceEqDiff, Nat.reduceBEq, Nat.reduceBNe, Int.reduceToNat, Int.reduceLT, Int.reduceLE, Int.reduceNeg, reduceCtorEq, Int.reduceEq, Int.reduceNe]
  refine AtFn.pure0 (indexI g caps hc p hg l hl) ?_
  simp -dsimp -implicitDefEqProofs (maxSteps := 1000000) only [go_sem, ↓reduceIte, Nat.reduceAdd, Nat.reduceSub, Nat.reduceMul, Nat.reduceLT, Nat.reduceLeDiff, Nat.reduceEqDiff, Nat.reduceBEq, Nat.reduceBNe, Int.reduceToNat, Int.reduceLT, Int.reduceLE, Int.reduceNeg, reduceCtorEq, Int.reduceEq, Int.reduceNe]
  refine ⟨hc, ?_⟩
  rw [idx_any]
theorem notCode (x : Int) : PFun Try.prog 67 [I x] (Bo (!inCode x)) := by
  refine PFun.intro 400 mixed Try.func67 (by kernel_rfl) rfl (by first | exact .v _ | (simp [Cl_v, Cl_t, Cl_g, Cl_fn, Cl_rp, Cl_ro]; done) | (simp [Cl_v, Cl_t, Cl_g, Cl_fn, Cl_rp, Cl_ro, or_imp, forall_and]; done) | (split <;> simp [Cl_v, Cl_t, Cl_g, Cl_fn, Cl_rp, Cl_ro])) (Nat.le_of_ble_eq_true rfl) ?_; rw [Try.ntmps67, Try.results67]
  simp -dsimp -implicitDefEqProofs (maxSteps := 1000000) only [go_sem, ↓reduceIte, Nat.reduceAdd, Nat.reduceSub, Nat.reduceMul, Nat.reduceLT, Nat.reduceLeDiff, Nat.reduceEqDiff, Nat.reduceBEq, Nat.reduceBNe, Int.reduceToNat, Int.reduceLT, Int.reduceLE, Int.reduceNeg, reduceCtorEq, Int.reduceEq, Int.reduceNe]
  refine AtFn.pure0 (isCode33 _) ?_
  simp -dsimp -implicitDefEqProofs (maxSteps := 1000000) only [go_sem, ↓reduceIte, Nat.reduceAdd, Nat.reduceSub, Nat.reduceMul, Nat.reduceLT, Nat.reduceLeDiff, Nat.reduceEqDiff, Nat.reduceBEq, Nat.reduceBNe, Int.reduceToNat, Int.reduceLT, Int.reduceLE, Int.reduceNeg, reduceCtorEq, Int.reduceEq, Int.reduceNe]
def okL (l : List Int) : Bool := decide (l.length ≤ 500) && l.all inCode
theorem isLine (l : List Int) (hl : l.length < 2 ^ 62) : PFun Try.prog 42 [Ints l] (Bo (okL l)) := by
  refine PFun.intro 400 mixed Try.func42 (by kernel_rfl) rfl (by first | exact .v _ | (simp [Cl_v, Cl_t, Cl_g, Cl_fn, Cl_rp, Cl_ro]; done) | (simp [Cl_v, Cl_t, Cl_g, Cl_fn, Cl_rp, Cl_ro, or_imp, forall_and]; done) | (split <;> simp [Cl_v, Cl_t, Cl_g, Cl_fn, Cl_rp, Cl_ro])) (Nat.le_of_ble_eq_true rfl) ?_; rw [Try.ntmps42, Try.results42]
  simp -dsimp -implicitDefEqProofs (maxSteps := 1000000) only [go_sem, ↓reduceIte, Nat.reduceAdd, Nat.reduceSub, Nat.reduceMul, Nat.reduceLT, Nat.reduceLeDiff, Nat.reduceEqDiff, Nat.reduceBEq, Nat.reduceBNe, Int.reduceToNat, Int.reduceLT, Int.reduceLE, Int.reduceNeg, reduceCtorEq, Int.reduceEq, Int.reduceNe, List.length_map]
  refine ⟨fun h => ?_, fun h => ?_⟩
  · refine AtFn.pure0 (containsI 67 [] (by simp) (fun x => !inCode x) notCode l hl) ?_
    simp -dsimp -implicitDefEqProofs (maxSteps := 1000000) only [go_sem, ↓reduceIte, Nat.reduceAdd, Nat.reduceSub, Nat.reduceMul, Nat.reduceLT, Nat.reduceLeDiff, Nat.reduceEqDiff, Nat.reduceBEq, Nat.reduceBNe, Int.reduceToNat, Int.reduceLT, Int.reduceLE, Int.reduceNeg, reduceCtorEq, Int.reduceEq, Int.reduceNe]
    have : l.length ≤ 500 := by omega
    rw [show (!l.any fun x => !inCode x) = l.all inCode by rw [List.all_eq_not_any_not]]
    simp [okL, this]
  · have : ¬ l.length ≤ 500 := by omega
    simp [okL, this]
end

section
set_option maxRecDepth 20000
attribute [local go_sem] clIntsL clRusL
theorem getI {l : List Int} {i : Nat} (h : i < l.length) : l[i]? = some (l.getD i 0) := by simp [List.getD, h]
theorem rLine (l : List Int) (hl : l.length < 2 ^ 62) : PFun Try.prog 46 [Ints l] (Bo (okL l)) := by
  refine PFun.intro 400 mixed Try.func46 (by kernel_rfl) rfl (by first | exact .v _ | (simp [Cl_v, Cl_t, Cl_g, Cl_fn, Cl_rp, Cl_ro]; done) | (simp [Cl_v, Cl_t, Cl_g, Cl_fn, Cl_rp, Cl_ro, or_imp, forall_and]; done) | (split <;> simp [Cl_v, Cl_t, Cl_g, Cl_fn, Cl_rp, Cl_ro])) (Nat.le_of_ble_eq_true rfl) ?_; rw [Try.ntmps46, Try.results46]
  simp -dsimp -implicitDefEqProofs (maxSteps := 1000000) only [go_sem, ↓reduceIte, Nat.reduceAdd, Nat.reduceSub, Nat.reduceMul, Nat.reduceLT, Nat.reduceLeDiff, Nat.reduceEqDiff, Nat.reduceBEq, Nat.reduceBNe, Int.reduceToNat, Int.reduceLT, Int.reduceLE, Int.reduceNeg, reduceCtorEq, Int.reduceEq, Int.reduceNe, List.length_map]
  refine ⟨{i : Nat // i ≤ l.length ∧ ∀ j, j < i → inCode (l.getD j 0) = true}, fun i => ⟨18, tl [(0, Ints l), (5, Ints l), (6, I l.length), (7, I i.1)], [], 0, .nil⟩, fun i => l.length - i.1,
    ⟨⟨0, by omega, by intro j h; omega⟩, Le.tl (Ls := []) (y := none) [] ?_ (by simp) (by simp) (by simp) trivial⟩, fun i => ?_⟩
  · simp -dsimp -implicitDefEqProofs (maxSteps := 1000000) only [go_sem, ↓reduceIte, Nat.reduceAdd, Nat.reduceSub, Nat.reduceMul, Nat.reduceLT, Nat.reduceLeDiff, Nat.reduceEqDiff, Nat.reduceBEq, Nat.reduceBNe, Int.reduceToNat, Int.reduceLT, Int.reduceLE, Int.reduceNeg, reduceCtorEq, Int.reduceEq, Int.reduceNe]
  · obtain ⟨i, hi, hall⟩ := i
    simp -dsimp -implicitDefEqProofs (maxSteps := 1000000) only [go_sem, ↓reduceIte, Nat.reduceAdd, Nat.reduceSub, Nat.reduceMul, Nat.reduceLT, Nat.reduceLeDiff, Nat.reduceEqDiff, Nat.reduceBEq, Nat.reduceBNe, Int.reduceToNat, Int.reduceLT, Int.reduceLE, Int.reduceNeg, reduceCtorEq, Int.reduceEq, Int.reduceNe, List.length_map]
    refine ⟨fun h => ?_, fun h => ?_⟩
    · have hlt : i < l.length := by omega
      simp -dsimp -implicitDefEqProofs (maxSteps := 1000000) only [go_sem, ↓reduceIte, Nat.reduceAdd, Nat.reduceSub, Nat.reduceMul, Nat.reduceLT, Nat.reduceLeDiff, Nat.reduceEqDiff, Nat.reduceBEq, Nat.reduceBNe, Int.reduceToNat, Int.reduceLT, Int.reduceLE, Int.reduceNeg, reduceCtorEq, Int.reduceEq, Int.reduceNe, List.getElem?_map, Int.toNat_natCast, Int.natCast_nonneg, getI hlt]
      refine AtFn.pure0 (code36 _) ?_
      simp -dsimp -implicitDefEqProofs (maxSteps := 1000000) only [go_sem, ↓reduceIte, Nat.reduceAdd, Nat.reduceSub, Nat.reduceMul, Nat.reduceLT, Nat.reduceLeDiff, Nat.reduceEqDiff, Nat.reduceBEq, Nat.reduceBNe, Int.reduceToNat, Int.reduceLT, Int.reduceLE, Int.reduceNeg, reduceCtorEq, Int.reduceEq, Int.reduceNe]
      cases hk : inCode (l.getD i 0)
      · simp -dsimp -implicitDefEqProofs (maxSteps := 1000000) only [go_sem, ↓reduceIte, Nat.reduceAdd, Nat.reduceSub, Nat.reduceMul, Nat.reduceLT, Nat.reduceLeDiff, Nat.reduceEqDiff, Nat.reduceBEq, Nat.reduceBNe, Int.reduceToNat, Int.reduceLT, Int.reduceLE, Int.reduceNeg, reduceCtorEq, Int.reduceEq, Int.reduceNe]
        have : l.all inCode = false := by
          rw [List.all_eq_false]
          exact ⟨_, List.mem_of_getElem? (getI hlt), by simp only [hk]; simp⟩
        simp [okL, this]
      · simp -dsimp -implicitDefEqProofs (maxSteps := 1000000) only [go_sem, ↓reduceIte, Nat.reduceAdd, Nat.reduceSub, Nat.reduceMul, Nat.reduceLT, Nat.reduceLeDiff, Nat.reduceEqDiff, Nat.reduceBEq, Nat.reduceBNe, Int.reduceToNat, Int.reduceLT, Int.reduceLE, Int.reduceNeg, reduceCtorEq, Int.reduceEq, Int.reduceNe]
        refine ⟨⟨i + 1, by omega, fun j hj => ?_⟩, by show l.length - (i + 1) < l.length - i; omega, Le.tl (Ls := []) (y := none) [] ?_ (by simp) (by simp) (by simp) trivial⟩
        · by_cases hji : j = i
          · subst hji; exact hk
          · exact hall j (by omega)
        · simp -dsimp -implicitDefEqProofs (maxSteps := 1000000) only [go_sem, ↓reduceIte, Nat.reduceAdd, Nat.reduceSub, Nat.reduceMul, Nat.reduceLT, Nat.reduceLeDiff, Nat.reduceEqDiff, Nat.reduceBEq, Nat.reduceBNe, Int.reduceToNat, Int.reduceLT, Int.reduceLE, Int.reduceNeg, reduceCtorEq, Int.reduceEq, Int.reduceNe]
          rw [wr_in (by omega) (by omega)]
          rfl
    · have hi' : i = l.length := by omega
      subst hi'
      have ha : l.all inCode = true := by
        rw [List.all_eq_true]
        intro r hr
        obtain ⟨j, hj⟩ := List.getElem?_of_mem hr
        have hj' := (List.getElem?_eq_some_iff.1 hj).1
        have := hall j hj'
        rw [getI hj'] at hj; cases hj; exact this
      have e : decide ((l.length : Int) ≤ 500) = decide (l.length ≤ 500) := by congr 1; simp; omega
      simp only [okL, ha, Bool.and_true, e]
end

section
set_option maxRecDepth 20000
attribute [local go_sem] clIntsL clRusL
theorem few (l : List Ru) : PFun Try.prog 11 [Rus l] (Bo (decide (l.length ≤ 600))) := by
  refine PFun.intro 400 mixed Try.func11 (by kernel_rfl) rfl (by first | exact .v _ | (simp [Cl_v, Cl_t, Cl_g, Cl_fn, Cl_rp, Cl_ro]; done) | (simp [Cl_v, Cl_t, Cl_g, Cl_fn, Cl_rp, Cl_ro, or_imp, forall_and]; done) | (split <;> simp [Cl_v, Cl_t, Cl_g, Cl_fn, Cl_rp, Cl_ro])) (Nat.le_of_ble_eq_true rfl) ?_; rw [Try.ntmps11, Try.results11]
  simp -dsimp -implicitDefEqProofs (maxSteps := 1000000) only [go_sem, ↓reduceIte, Nat.reduceAdd, Nat.reduceSub, Nat.reduceMul, Nat.reduceLT, Nat.reduceLeDiff, Nat.reduceEqDiff, Nat.reduceBEq, Nat.reduceBNe, Int.reduceToNat, Int.reduceLT, Int.reduceLE, Int.reduceNeg, reduceCtorEq, Int.reduceEq, Int.reduceNe, List.length_map]
  congr 3
  simp
  omega
end

section
set_option maxRecDepth 20000
/-- A list of sets: a code and a kern. -/
abbrev Sets (l : List (Int × Int)) : AV := .ro 2 (l.map fun p => [I p.1, I p.2])
theorem clSets (l : List (Int × Int)) : (∀ c ∈ l.map (fun p => [I p.1, I p.2]), ∀ s ∈ c, Cl s) ↔ True := by
  simp only [iff_true]
  intro c hc s hs
  obtain ⟨p, _, rfl⟩ := List.mem_map.1 hc
  simp at hs
  rcases hs with rfl | rfl <;> exact .v _
theorem ren_sets {σ : Nat → Nat} {ns : List Nat} {l : List (Int × Int)} : Ren σ ns (Sets l) (Sets l) ↔ True := by
  simp only [iff_true]; exact ren_ro.2 ⟨rfl, rfl, (clSets l).2 trivial⟩
theorem eqA58 (d : Nat) (w : World) (x0 y0 : Int) (x1 y1 : Int) :
    (Op.equalIn (d + 2) 58 (.agg #[.int .i64 x0, .int .i64 x1]) (.agg #[.int .i64 y0, .int .i64 y1])).run Try.prog w = .ok (x0 == y0 && ((x1 == y1) && true)) w := by
  refine eqS_of Try.underlying58 (by kernel_rfl) ?_
  refine eqF_cons (by rfl) (by go_simp; rfl) (by go_simp; rfl) (by go_simp) ?_
  exact eqF_cons (by rfl) (by go_simp; rfl) (by go_simp; rfl) (by go_simp) eqF_nil
theorem eqk58 : EqK Try.prog 58 2 := by
  refine EqK.of (by kernel_rfl) fun xs ys hx hy w => ?_
  match xs, ys, hx, hy with
  | [a, b], [c, d], _, _ =>
    have := eqA58 9998 w a c b d
    refine Eq.trans this ?_
    congr 1
    rw [Bool.eq_iff_iff]; simp
theorem eqk58' : EqK Try.prog 58 2 ↔ True := iff_true_intro eqk58

theorem sameS (l m : List (Int × Int)) (hl : l.length < 2 ^ 62) : PFun Try.prog 21 [Sets l, Sets m] (Bo (decide (l = m))) := by
  refine PFun.intro 400 mixed Try.func21 (by kernel_rfl) rfl (by first | exact .v _ | (simp [Cl_v, Cl_t, Cl_g, Cl_fn, Cl_rp, Cl_ro]; done) | (simp [Cl_v, Cl_t, Cl_g, Cl_fn, Cl_rp, Cl_ro, or_imp, forall_and]; done) | (split <;> simp [Cl_v, Cl_t, Cl_g, Cl_fn, Cl_rp, Cl_ro])) (Nat.le_of_ble_eq_true rfl) ?_; rw [Try.ntmps21, Try.results21]
  simp -dsimp -implicitDefEqProofs (maxSteps := 1000000) only [go_sem, ↓reduceIte, Nat.reduceAdd, Nat.reduceSub, Nat.reduceMul, Nat.reduceLT, Nat.reduceLeDiff, Nat.reduceEqDiff, Nat.reduceBEq, Nat.reduceBNe, Int.reduceToNat, Int.reduceLT, Int.reduceLE, Int.reduceNeg, reduceCtorEq, Int.reduceEq, Int.reduceNe, List.length_map]
  refine ⟨fun h => ?_, fun h => ?_⟩
  · have hlm : l.length = m.length := by omega
    refine ⟨{i : Nat // i ≤ l.length ∧ ∀ j (h : j < l.length) (h' : j < m.length), j < i → l[j] = m[j]}, fun i => ⟨26, tl [(0, Sets l), (1, Sets m), (12, I l.length), (13, I i.1)], [], 0, .nil⟩, fun i => l.length - i.1,
      ⟨⟨0, by omega, by intro j h h' h''; omega⟩, Le.tl (Ls := []) (y := none) [] ?_ (by simp) (by simp) (by simp) trivial⟩, fun i => ?_⟩
    · simp -dsimp -implicitDefEqProofs (maxSteps := 1000000) only [go_sem, ↓reduceIte, Nat.reduceAdd, Nat.reduceSub, Nat.reduceMul, Nat.reduceLT, Nat.reduceLeDiff, Nat.reduceEqDiff, Nat.reduceBEq, Nat.reduceBNe, Int.reduceToNat, Int.reduceLT, Int.reduceLE, Int.reduceNeg, reduceCtorEq, Int.reduceEq, Int.reduceNe, ren_sets]
    · obtain ⟨i, hi, hall⟩ := i
      simp -dsimp -implicitDefEqProofs (maxSteps := 1000000) only [go_sem, ↓reduceIte, Nat.reduceAdd, Nat.reduceSub, Nat.reduceMul, Nat.reduceLT, Nat.reduceLeDiff, Nat.reduceEqDiff, Nat.reduceBEq, Nat.reduceBNe, Int.reduceToNat, Int.reduceLT, Int.reduceLE, Int.reduceNeg, reduceCtorEq, Int.reduceEq, Int.reduceNe]
      refine ⟨fun h => ?_, fun h => ?_⟩
      · have hlt : i < l.length := by omega
        have hlt' : i < m.length := by omega
        have hp : l[i]? = some l[i] := List.getElem?_eq_getElem hlt
        have hp' : m[i]? = some m[i] := List.getElem?_eq_getElem hlt'
        refine AtCode.draw 9 [([], []), ([], []), ([0, 1], []), ([0, 1, 2], []), ([], []), ([], []), ([4, 5], []), ([4, 5, 6], []), ([0, 1, 2, 3, 4, 5, 6, 7], [])] (by kernel_rfl) ?_
        simp -dsimp -implicitDefEqProofs (maxSteps := 1000000) only [go_sem, ↓reduceIte, Nat.reduceAdd, Nat.reduceSub, Nat.reduceMul, Nat.reduceLT, Nat.reduceLeDiff, Nat.reduceEqDiff, Nat.reduceBEq, Nat.reduceBNe, Int.reduceToNat, Int.reduceLT, Int.reduceLE, Int.reduceNeg, reduceCtorEq, Int.reduceEq, Int.reduceNe, List.getElem?_map, Int.toNat_natCast, hp, hp', eqk58']
        refine ⟨Int.natCast_nonneg _, Int.natCast_nonneg _, ?_⟩
        refine ⟨fun he => ?_, fun he => ?_⟩
        · have he' : l[i] = m[i] := by
            simp at he; exact Prod.ext he.1 he.2
          refine ⟨⟨i + 1, by omega, fun j h1 h2 h3 => ?_⟩, by show l.length - (i + 1) < l.length - i; omega, Le.tl (Ls := []) (y := none) [] ?_ (by simp) (by simp) (by simp) trivial⟩
          · by_cases hj : j = i
            · subst hj; exact he'
            · exact hall j h1 h2 (by omega)
          · simp -dsimp -implicitDefEqProofs (maxSteps := 1000000) only [go_sem, ↓reduceIte, Nat.reduceAdd, Nat.reduceSub, Nat.reduceMul, Nat.reduceLT, Nat.reduceLeDiff, Nat.reduceEqDiff, Nat.reduceBEq, Nat.reduceBNe, Int.reduceToNat, Int.reduceLT, Int.reduceLE, Int.reduceNeg, reduceCtorEq, Int.reduceEq, Int.reduceNe, ren_sets]
            have : wr (↑i + 1) = ((i + 1 : Nat) : Int) := by exact wr_in (by omega) (by omega)
            simp [this, ren_v]
        · have : ¬ l = m := fun e => he (by subst e; rfl)
          simp [this]
      · have : l = m := List.ext_getElem hlm fun j h1 h2 => hall j h1 h2 (by omega)
        simp [this]
  · have : ¬ l = m := fun e => h (by rw [e])
    simp [this]
end

section
set_option maxRecDepth 20000
attribute [local go_sem] clSets
abbrev SA (x : Int × Int) : AV := .g [I x.1, I x.2]
theorem indexS (g : Nat) (caps : List AV) (hc : ∀ x ∈ caps, Cl x) (p : (Int × Int) → Bool) (hg : ∀ r, PFun Try.prog g (SA r :: caps) (Bo (p r))) (l : List (Int × Int)) (hl : l.length < 2 ^ 62) : PFun Try.prog 92 [Sets l, .fn g caps] (I (idx p l)) := by
  have hfn : Cl (.fn g caps) := .fn hc
  refine PFun.intro 400 mixed Try.func92 (by kernel_rfl) rfl (by first | exact .v _ | (simp [Cl_v, Cl_t, Cl_g, Cl_fn, Cl_rp, Cl_ro]; done) | (simp [Cl_v, Cl_t, Cl_g, Cl_fn, Cl_rp, Cl_ro, or_imp, forall_and]; done) | (split <;> simp [Cl_v, Cl_t, Cl_g, Cl_fn, Cl_rp, Cl_ro])) (Nat.le_of_ble_eq_true rfl) ?_; rw [Try.ntmps92, Try.results92]
  simp -dsimp -implicitDefEqProofs (maxSteps := 1000000) only [go_sem, ↓reduceIte, Nat.reduceAdd, Nat.reduceSub, Nat.reduceMul, Nat.reduceLT, Nat.reduceLeDiff, Nat.reduceEqDiff, Nat.reduceBEq, Nat.reduceBNe, Int.reduceToNat, Int.reduceLT, Int.reduceLE, Int.reduceNeg, reduceCtorEq, Int.reduceEq, Int.reduceNe, List.length_map]
  refine ⟨{i : Nat // i ≤ l.length ∧ ∀ j, j < i → ∀ y, l[j]? = some y → p y = false}, fun i => ⟨19, tl [(0, Sets l), (1, .fn g caps), (4, I 0), (7, I l.length), (8, I i.1)], [], 0, .nil⟩, fun i => l.length - i.1,
    ⟨⟨0, by omega, by intro j h; omega⟩, Le.tl (Ls := []) (y := none) [] ?_ (by simp) (by simp) (by simp) trivial⟩, fun i => ?_⟩
  · simp -dsimp -implicitDefEqProofs (maxSteps := 1000000) only [go_sem, ↓reduceIte, Nat.reduceAdd, Nat.reduceSub, Nat.reduceMul, Nat.reduceLT, Nat.reduceLeDiff, Nat.reduceEqDiff, Nat.reduceBEq, Nat.reduceBNe, Int.reduceToNat, Int.reduceLT, Int.reduceLE, Int.reduceNeg, reduceCtorEq, Int.reduceEq, Int.reduceNe]
    exact .cl hfn
  · obtain ⟨i, hi, hall⟩ := i
    simp -dsimp -implicitDefEqProofs (maxSteps := 1000000) only [go_sem, ↓reduceIte, Nat.reduceAdd, Nat.reduceSub, Nat.reduceMul, Nat.reduceLT, Nat.reduceLeDiff, Nat.reduceEqDiff, Nat.reduceBEq, Nat.reduceBNe, Int.reduceToNat, Int.reduceLT, Int.reduceLE, Int.reduceNeg, reduceCtorEq, Int.reduceEq, Int.reduceNe]
    refine ⟨fun h => ?_, fun h => ?_⟩
    · have hlt : i < l.length := by omega
      have hp : l[i]? = some l[i] := List.getElem?_eq_getElem hlt
      simp -dsimp -implicitDefEqProofs (maxSteps := 1000000) only [go_sem, ↓reduceIte, Nat.reduceAdd, Nat.reduceSub, Nat.reduceMul, Nat.reduceLT, Nat.reduceLeDiff, Nat.reduceEqDiff, Nat.reduceBEq, Nat.reduceBNe, Int.reduceToNat, Int.reduceLT, Int.reduceLE, Int.reduceNeg, reduceCtorEq, Int.reduceEq, Int.reduceNe, List.getElem?_map, Int.toNat_natCast, Int.natCast_nonneg, hp]
      refine AtFn.pure0 (hg _) ?_
      simp -dsimp -implicitDefEqProofs (maxSteps := 1000000) only [go_sem, ↓reduceIte, Nat.reduceAdd, Nat.reduceSub, Nat.reduceMul, Nat.reduceLT, Nat.reduceLeDiff, Nat.reduceEqDiff, Nat.reduceBEq, Nat.reduceBNe, Int.reduceToNat, Int.reduceLT, Int.reduceLE, Int.reduceNeg, reduceCtorEq, Int.reduceEq, Int.reduceNe]
      refine ⟨hc, ?_⟩
      cases hb : p l[i]
      · simp -dsimp -implicitDefEqProofs (maxSteps := 1000000) only [go_sem, ↓reduceIte, Nat.reduceAdd, Nat.reduceSub, Nat.reduceMul, Nat.reduceLT, Nat.reduceLeDiff, Nat.reduceEqDiff, Nat.reduceBEq, Nat.reduceBNe, Int.reduceToNat, Int.reduceLT, Int.reduceLE, Int.reduceNeg, reduceCtorEq, Int.reduceEq, Int.reduceNe]
        refine ⟨⟨i + 1, by omega, fun j h' y hy => ?_⟩, by show l.length - (i + 1) < l.length - i; omega, Le.tl (Ls := []) (y := none) [] ?_ (by simp) (by simp) (by simp) trivial⟩
        · by_cases hj : j = i
          · subst hj; rw [hp] at hy; cases hy; exact hb
          · exact hall j (by omega) y hy
        · simp -dsimp -implicitDefEqProofs (maxSteps := 1000000) only [go_sem, ↓reduceIte, Nat.reduceAdd, Nat.reduceSub, Nat.reduceMul, Nat.reduceLT, Nat.reduceLeDiff, Nat.reduceEqDiff, Nat.reduceBEq, Nat.reduceBNe, Int.reduceToNat, Int.reduceLT, Int.reduceLE, Int.reduceNeg, reduceCtorEq, Int.reduceEq, Int.reduceNe]
          refine ⟨.cl hfn, ?_⟩
          rw [wr_in (by omega) (by omega)]
          rfl
      · simp -dsimp -implicitDefEqProofs (maxSteps := 1000000) only [go_sem, ↓reduceIte, Nat.reduceAdd, Nat.reduceSub, Nat.reduceMul, Nat.reduceLT, Nat.reduceLeDiff, Nat.reduceEqDiff, Nat.reduceBEq, Nat.reduceBNe, Int.reduceToNat, Int.reduceLT, Int.reduceLE, Int.reduceNeg, reduceCtorEq, Int.reduceEq, Int.reduceNe]
        rw [idx_some hp hb hall]
    · have hi' : i = l.length := by omega
      subst hi'
      rw [idx_none hall]
theorem containsS (g : Nat) (caps : List AV) (hc : ∀ x ∈ caps, Cl x) (p : (Int × Int) → Bool) (hg : ∀ r, PFun Try.prog g (SA r :: caps) (Bo (p r))) (l : List (Int × Int)) (hl : l.length < 2 ^ 62) : PFun Try.prog 70 [Sets l, .fn g caps] (Bo (l.any p)) := by
  refine PFun.intro 400 mixed Try.func70 (by kernel_rfl) rfl (by first | exact .v _ | (simp [Cl_v, Cl_t, Cl_g, Cl_fn, Cl_rp, Cl_ro]; done) | (simp [Cl_v, Cl_t, Cl_g, Cl_fn, Cl_rp, Cl_ro, or_imp, forall_and]; done) | (split <;> simp [Cl_v, Cl_t, Cl_g, Cl_fn, Cl_rp, Cl_ro])) (Nat.le_of_ble_eq_true rfl) ?_; rw [Try.ntmps70, Try.results70]
  simp -dsimp -implicitDefEqProofs (maxSteps := 1000000) only [go_sem, ↓reduceIte, Nat.reduceAdd, Nat.reduceSub, Nat.reduceMul, Nat.reduceLT, Nat.reduceLeDiff, Nat.reduceEqDiff, Nat.reduceBEq, Nat.reduceBNe, Int.reduceToNat, Int.reduceLT, Int.reduceLE, Int.reduceNeg, reduceCtorEq, Int.reduceEq, Int.reduceNe]
  refine AtFn.pure0 (indexS g caps hc p hg l hl) ?_
  simp -dsimp -implicitDefEqProofs (maxSteps := 1000000) only [go_sem, ↓reduceIte, Nat.reduceAdd, Nat.reduceSub, Nat.reduceMul, Nat.reduceLT, Nat.reduceLeDiff, Nat.reduceEqDiff, Nat.reduceBEq, Nat.reduceBNe, Int.reduceToNat, Int.reduceLT, Int.reduceLE, Int.reduceNeg, reduceCtorEq, Int.reduceEq, Int.reduceNe]
  refine ⟨hc, ?_⟩
  rw [idx_any]
theorem isKern80 (x : Int) : PFun Try.prog 80 [I x] (Bo (inCoord x)) := by
  refine PFun.intro 400 mixed Try.func80 (by kernel_rfl) rfl (by first | exact .v _ | (simp [Cl_v, Cl_t, Cl_g, Cl_fn, Cl_rp, Cl_ro]; done) | (simp [Cl_v, Cl_t, Cl_g, Cl_fn, Cl_rp, Cl_ro, or_imp, forall_and]; done) | (split <;> simp [Cl_v, Cl_t, Cl_g, Cl_fn, Cl_rp, Cl_ro])) (Nat.le_of_ble_eq_true rfl) ?_; rw [Try.ntmps80, Try.results80]
  simp -dsimp -implicitDefEqProofs (maxSteps := 1000000) only [go_sem, ↓reduceIte, Nat.reduceAdd, Nat.reduceSub, Nat.reduceMul, Nat.reduceLT, Nat.reduceLeDiff, Nat.reduceEqDiff, Nat.reduceBEq, Nat.reduceBNe, Int.reduceToNat, Int.reduceLT, Int.reduceLE, Int.reduceNeg, reduceCtorEq, Int.reduceEq, Int.reduceNe]
  constructor <;> intro h <;> simp [inCoord, h]
theorem notKern (s : Int × Int) : PFun Try.prog 79 [SA s] (Bo (!inCoord s.2)) := by
  refine PFun.intro 400 mixed Try.func79 (by kernel_rfl) rfl (by first | exact .v _ | (simp [Cl_v, Cl_t, Cl_g, Cl_fn, Cl_rp, Cl_ro]; done) | (simp [Cl_v, Cl_t, Cl_g, Cl_fn, Cl_rp, Cl_ro, or_imp, forall_and]; done) | (split <;> simp [Cl_v, Cl_t, Cl_g, Cl_fn, Cl_rp, Cl_ro])) (Nat.le_of_ble_eq_true rfl) ?_; rw [Try.ntmps79, Try.results79]
  simp -dsimp -implicitDefEqProofs (maxSteps := 1000000) only [go_sem, ↓reduceIte, Nat.reduceAdd, Nat.reduceSub, Nat.reduceMul, Nat.reduceLT, Nat.reduceLeDiff, Nat.reduceEqDiff, Nat.reduceBEq, Nat.reduceBNe, Int.reduceToNat, Int.reduceLT, Int.reduceLE, Int.reduceNeg, reduceCtorEq, Int.reduceEq, Int.reduceNe]
  refine AtFn.pure0 (isKern80 _) ?_
  simp -dsimp -implicitDefEqProofs (maxSteps := 1000000) only [go_sem, ↓reduceIte, Nat.reduceAdd, Nat.reduceSub, Nat.reduceMul, Nat.reduceLT, Nat.reduceLeDiff, Nat.reduceEqDiff, Nat.reduceBEq, Nat.reduceBNe, Int.reduceToNat, Int.reduceLT, Int.reduceLE, Int.reduceNeg, reduceCtorEq, Int.reduceEq, Int.reduceNe]
theorem notCodeS (s : Int × Int) : PFun Try.prog 71 [SA s] (Bo (!inCode s.1)) := by
  refine PFun.intro 400 mixed Try.func71 (by kernel_rfl) rfl (by first | exact .v _ | (simp [Cl_v, Cl_t, Cl_g, Cl_fn, Cl_rp, Cl_ro]; done) | (simp [Cl_v, Cl_t, Cl_g, Cl_fn, Cl_rp, Cl_ro, or_imp, forall_and]; done) | (split <;> simp [Cl_v, Cl_t, Cl_g, Cl_fn, Cl_rp, Cl_ro])) (Nat.le_of_ble_eq_true rfl) ?_; rw [Try.ntmps71, Try.results71]
  simp -dsimp -implicitDefEqProofs (maxSteps := 1000000) only [go_sem, ↓reduceIte, Nat.reduceAdd, Nat.reduceSub, Nat.reduceMul, Nat.reduceLT, Nat.reduceLeDiff, Nat.reduceEqDiff, Nat.reduceBEq, Nat.reduceBNe, Int.reduceToNat, Int.reduceLT, Int.reduceLE, Int.reduceNeg, reduceCtorEq, Int.reduceEq, Int.reduceNe]
  refine AtFn.pure0 (isCode33 _) ?_
  simp -dsimp -implicitDefEqProofs (maxSteps := 1000000) only [go_sem, ↓reduceIte, Nat.reduceAdd, Nat.reduceSub, Nat.reduceMul, Nat.reduceLT, Nat.reduceLeDiff, Nat.reduceEqDiff, Nat.reduceBEq, Nat.reduceBNe, Int.reduceToNat, Int.reduceLT, Int.reduceLE, Int.reduceNeg, reduceCtorEq, Int.reduceEq, Int.reduceNe]
def okSets (l : List (Int × Int)) : Bool := decide (l.length ≤ 2000) && l.all fun s => inCoord s.2
theorem areSets (l : List (Int × Int)) (hl : l.length < 2 ^ 62) : PFun Try.prog 54 [Sets l] (Bo (okSets l)) := by
  refine PFun.intro 400 mixed Try.func54 (by kernel_rfl) rfl (by first | exact .v _ | (simp [Cl_v, Cl_t, Cl_g, Cl_fn, Cl_rp, Cl_ro]; done) | (simp [Cl_v, Cl_t, Cl_g, Cl_fn, Cl_rp, Cl_ro, or_imp, forall_and]; done) | (split <;> simp [Cl_v, Cl_t, Cl_g, Cl_fn, Cl_rp, Cl_ro])) (Nat.le_of_ble_eq_true rfl) ?_; rw [Try.ntmps54, Try.results54]
  simp -dsimp -implicitDefEqProofs (maxSteps := 1000000) only [go_sem, ↓reduceIte, Nat.reduceAdd, Nat.reduceSub, Nat.reduceMul, Nat.reduceLT, Nat.reduceLeDiff, Nat.reduceEqDiff, Nat.reduceBEq, Nat.reduceBNe, Int.reduceToNat, Int.reduceLT, Int.reduceLE, Int.reduceNeg, reduceCtorEq, Int.reduceEq, Int.reduceNe, List.length_map]
  refine ⟨fun h => ?_, fun h => ?_⟩
  · refine AtFn.pure0 (containsS 79 [] (by simp) (fun s => !inCoord s.2) notKern l hl) ?_
    simp -dsimp -implicitDefEqProofs (maxSteps := 1000000) only [go_sem, ↓reduceIte, Nat.reduceAdd, Nat.reduceSub, Nat.reduceMul, Nat.reduceLT, Nat.reduceLeDiff, Nat.reduceEqDiff, Nat.reduceBEq, Nat.reduceBNe, Int.reduceToNat, Int.reduceLT, Int.reduceLE, Int.reduceNeg, reduceCtorEq, Int.reduceEq, Int.reduceNe]
    have : l.length ≤ 2000 := by omega
    rw [show (!l.any fun s => !inCoord s.2) = l.all (fun s => inCoord s.2) by rw [List.all_eq_not_any_not]]
    simp [okSets, this]
  · have : ¬ l.length ≤ 2000 := by omega
    simp [okSets, this]
end

section
set_option maxRecDepth 20000
attribute [local go_sem] clSets
theorem getS {l : List (Int × Int)} {i : Nat} (h : i < l.length) : l[i]? = some (l.getD i (0, 0)) := by simp [List.getD, h]
theorem rSets (l : List (Int × Int)) (hl : l.length < 2 ^ 62) : PFun Try.prog 57 [Sets l] (Bo (okSets l)) := by
  refine PFun.intro 400 mixed Try.func57 (by kernel_rfl) rfl (by first | exact .v _ | (simp [Cl_v, Cl_t, Cl_g, Cl_fn, Cl_rp, Cl_ro]; done) | (simp [Cl_v, Cl_t, Cl_g, Cl_fn, Cl_rp, Cl_ro, or_imp, forall_and]; done) | (split <;> simp [Cl_v, Cl_t, Cl_g, Cl_fn, Cl_rp, Cl_ro])) (Nat.le_of_ble_eq_true rfl) ?_; rw [Try.ntmps57, Try.results57]
  simp -dsimp -implicitDefEqProofs (maxSteps := 1000000) only [go_sem, ↓reduceIte, Nat.reduceAdd, Nat.reduceSub, Nat.reduceMul, Nat.reduceLT, Nat.reduceLeDiff, Nat.reduceEqDiff, Nat.reduceBEq, Nat.reduceBNe, Int.reduceToNat, Int.reduceLT, Int.reduceLE, Int.reduceNeg, reduceCtorEq, Int.reduceEq, Int.reduceNe, List.length_map]
  refine ⟨{i : Nat // i ≤ l.length ∧ ∀ j, j < i → inCoord (l.getD j (0, 0)).2 = true}, fun i => ⟨23, tl [(0, Sets l), (5, Sets l), (6, I l.length), (7, I i.1)], [], 0, .nil⟩, fun i => l.length - i.1,
    ⟨⟨0, by omega, by intro j h; omega⟩, Le.tl (Ls := []) (y := none) [] ?_ (by simp) (by simp) (by simp) trivial⟩, fun i => ?_⟩
  · simp -dsimp -implicitDefEqProofs (maxSteps := 1000000) only [go_sem, ↓reduceIte, Nat.reduceAdd, Nat.reduceSub, Nat.reduceMul, Nat.reduceLT, Nat.reduceLeDiff, Nat.reduceEqDiff, Nat.reduceBEq, Nat.reduceBNe, Int.reduceToNat, Int.reduceLT, Int.reduceLE, Int.reduceNeg, reduceCtorEq, Int.reduceEq, Int.reduceNe]
  · obtain ⟨i, hi, hall⟩ := i
    simp -dsimp -implicitDefEqProofs (maxSteps := 1000000) only [go_sem, ↓reduceIte, Nat.reduceAdd, Nat.reduceSub, Nat.reduceMul, Nat.reduceLT, Nat.reduceLeDiff, Nat.reduceEqDiff, Nat.reduceBEq, Nat.reduceBNe, Int.reduceToNat, Int.reduceLT, Int.reduceLE, Int.reduceNeg, reduceCtorEq, Int.reduceEq, Int.reduceNe, List.length_map]
    refine ⟨fun h => ?_, fun h => ?_⟩
    · have hlt : i < l.length := by omega
      have hno : inCoord (l.getD i (0, 0)).2 = false → okSets l = false := by
        intro hk
        have : (l.all fun s => inCoord s.2) = false := by
          rw [List.all_eq_false]
          exact ⟨_, List.mem_of_getElem? (getS hlt), by simp only [hk]; simp⟩
        simp [okSets, this]
      simp -dsimp -implicitDefEqProofs (maxSteps := 1000000) only [go_sem, ↓reduceIte, Nat.reduceAdd, Nat.reduceSub, Nat.reduceMul, Nat.reduceLT, Nat.reduceLeDiff, Nat.reduceEqDiff, Nat.reduceBEq, Nat.reduceBNe, Int.reduceToNat, Int.reduceLT, Int.reduceLE, Int.reduceNeg, reduceCtorEq, Int.reduceEq, Int.reduceNe, List.getElem?_map, Int.toNat_natCast, Int.natCast_nonneg, getS hlt]
      refine ⟨fun h1 => ?_, fun h1 => ⟨fun h2 => ?_, fun h2 => ?_⟩⟩
      · rw [hno (by simp only [inCoord, Bool.and_eq_false_iff, decide_eq_false_iff_not]; omega)]
      · rw [hno (by simp only [inCoord, Bool.and_eq_false_iff, decide_eq_false_iff_not]; omega)]
      · refine ⟨⟨i + 1, by omega, fun j hj => ?_⟩, by show l.length - (i + 1) < l.length - i; omega, Le.tl (Ls := []) (y := none) [] ?_ (by simp) (by simp) (by simp) trivial⟩
        · by_cases hji : j = i
          · subst hji; simp only [inCoord, Bool.and_eq_true, decide_eq_true_eq]; omega
          · exact hall j (by omega)
        · simp -dsimp -implicitDefEqProofs (maxSteps := 1000000) only [go_sem, ↓reduceIte, Nat.reduceAdd, Nat.reduceSub, Nat.reduceMul, Nat.reduceLT, Nat.reduceLeDiff, Nat.reduceEqDiff, Nat.reduceBEq, Nat.reduceBNe, Int.reduceToNat, Int.reduceLT, Int.reduceLE, Int.reduceNeg, reduceCtorEq, Int.reduceEq, Int.reduceNe]
          rw [wr_in (by omega) (by omega)]
          rfl
    · have hi' : i = l.length := by omega
      subst hi'
      have ha : (l.all fun s => inCoord s.2) = true := by
        rw [List.all_eq_true]
        intro r hr
        obtain ⟨j, hj⟩ := List.getElem?_of_mem hr
        have hj' := (List.getElem?_eq_some_iff.1 hj).1
        have := hall j hj'
        rw [getS hj'] at hj; cases hj; exact this
      have e : decide ((l.length : Int) ≤ 2000) = decide (l.length ≤ 2000) := by congr 1; simp; omega
      simp only [okSets, ha, Bool.and_true, e]
end

section
set_option maxRecDepth 20000
/-- What is known of pairs. -/
abbrev Mm := List ((Int × Int) × Int)
abbrev prV (p : Int × Int) : Value := .agg #[.int .i64 p.1, .int .i64 p.2]
def encM (M : Mm) : List (Value × Value) := M.map fun e => (prV e.1, .int .i64 e.2)
def findM : Mm → Int × Int → Option Int
  | [], _ => none
  | e :: r, p => if e.1 = p then some e.2 else findM r p
def putM : Mm → Int × Int → Int → Mm
  | [], p, v => [(p, v)]
  | e :: r, p, v => if e.1 = p then (p, v) :: r else e :: putM r p v
theorem findM_putM (M : Mm) (p q : Int × Int) (v : Int) : findM (putM M p v) q = if p = q then some v else findM M q := by
  induction M with
  | nil => simp [putM, findM]
  | cons e r ih =>
    unfold putM
    by_cases h : e.1 = p
    · rw [if_pos h]
      subst h
      simp only [findM]
      split <;> rfl
    · rw [if_neg h]
      simp only [findM, ih]
      by_cases h2 : e.1 = q
      · subst h2
        rw [if_pos rfl, if_neg (fun e => h e.symm), if_pos rfl]
      · rw [if_neg h2, if_neg h2]
theorem eq70 (d : Nat) (w : World) (x0 y0 x1 y1 : Int) :
    (Op.equalIn (d + 2) 70 (.agg #[.int .i64 x0, .int .i64 x1]) (.agg #[.int .i64 y0, .int .i64 y1])).run Try.prog w = .ok (x0 == y0 && x1 == y1) w := by
  have p1 : ∀ (a b : Int), (part 3 #[.int .i64 a, .int .i64 b] (0 * 1)).run Try.prog w = .ok (.int .i64 a) w := by intro a b; go_simp
  have p2 : ∀ (a b : Int), (part 3 #[.int .i64 a, .int .i64 b] (1 * 1)).run Try.prog w = .ok (.int .i64 b) w := by intro a b; go_simp
  have hs : (sizeOf 3).run Try.prog w = .ok 1 w := by go_simp
  have e1 : ∀ (a b : Int), (Op.equalIn (d + 1) 3 (.int .i64 a) (.int .i64 b)).run Try.prog w = .ok (a == b) w := by intro a b; go_simp
  rw [Op.equalIn]
  simp only [Sem.run_bind, run_underlying Try.underlying70, Result.andThen_ok, hs]
  rw [Std.Legacy.Range.forIn_eq_forIn_range']
  have hr : List.range' 0 2 = [0, 1] := rfl
  simp only [Std.Legacy.Range.size, List.forIn_cons, List.forIn_nil, Nat.reduceSub, Nat.reduceAdd, Nat.reduceDiv, Nat.sub_zero, Nat.add_one_sub_one, Nat.div_one, hr, Sem.run_bind, p1, p2, Result.andThen_ok, e1]
  cases h1 : (x0 == y0) <;> cases h2 : (x1 == y1) <;> simp_all [Sem.run_bind, List.range']
theorem eq70' (w : World) (p q : Int × Int) : (Op.equal 70 (prV p) (prV q)).run Try.prog w = .ok (decide (q = p)) w := by
  refine Eq.trans (eq70 9998 w p.1 q.1 p.2 q.2) ?_
  congr 1
  obtain ⟨a, b⟩ := p; obtain ⟨c, d⟩ := q
  rw [Bool.eq_iff_iff]
  simp only [Bool.and_eq_true, beq_iff_eq, decide_eq_true_eq, Prod.mk.injEq]
  exact ⟨fun h => ⟨h.1.symm, h.2.symm⟩, fun h => ⟨h.1.symm, h.2.symm⟩⟩
theorem checkI (w : World) (em : Bool) (n : Nat) (a : Int) : (Instr.checkKey em (n + 1) 3 (.int .i64 a)).run Try.prog w = .ok () w := by
  rw [Instr.checkKey]
  simp only [Sem.run_bind, run_underlying Try.underlying3, Result.andThen_ok]
  rfl
theorem checkP (w : World) (em : Bool) (n : Nat) (p : Int × Int) : (Instr.checkKey em (n + 2) 70 (prV p)).run Try.prog w = .ok () w := by
  have hs : (sizeOf 3).run Try.prog w = .ok 1 w := by go_simp
  have p1 : ∀ (a b : Int), (part 3 #[.int .i64 a, .int .i64 b] (0 * 1)).run Try.prog w = .ok (.int .i64 a) w := by intro a b; go_simp
  have p2 : ∀ (a b : Int), (part 3 #[.int .i64 a, .int .i64 b] (1 * 1)).run Try.prog w = .ok (.int .i64 b) w := by intro a b; go_simp
  rw [Instr.checkKey]
  simp only [Sem.run_bind, run_underlying Try.underlying70, Result.andThen_ok]
  rw [Std.Legacy.Range.forIn_eq_forIn_range']
  have hr : List.range' 0 2 = [0, 1] := rfl
  simp only [Std.Legacy.Range.size, List.forIn_cons, List.forIn_nil, Nat.reduceSub, Nat.reduceAdd, Nat.reduceDiv, Nat.sub_zero, Nat.add_one_sub_one, Nat.div_one, hr, Sem.run_bind, hs, p1, p2, Result.andThen_ok, checkI, Sem.run_pure]
theorem check70 (w : World) (em : Bool) (p : Int × Int) : (Instr.checkKey em 10000 70 (prV p)).run Try.prog w = .ok () w := checkP w em 9998 p
theorem getMp {w : World} {b : Nat} {l : List (Value × Value)} (hb : w.heap[b]? = some (mpO l)) : (getObj b).run Try.prog w = .ok (.map (l.mapIdx fun i p => (⟨p.1, p.2, i⟩ : MapEntry)).toArray l.length) w := by
  rw [mpO] at hb
  simp [getObj, Sem.run, hb]
theorem setMp {w : World} {b : Nat} {l : List (Value × Value)} (o : Obj) (hb : w.heap[b]? = some (mpO l)) : (setObj b o).run Try.prog w = .ok () { w with heap := w.heap.setIfInBounds b o } := by
  rw [mpO] at hb
  simp [setObj, Sem.run, hb]
theorem asks (w : World) (p : Int × Int) : ∀ (M : Mm) (i j : Nat), (Instr.findAsking 70 (prV p) ((encM M).mapIdx fun q e => (⟨e.1, e.2, q + j⟩ : MapEntry)) i).run Try.prog w =
    .ok (if (findM M p).isSome then some (i + M.findIdx (fun e => decide (e.1 = p)), .int .i64 ((findM M p).getD 0)) else none) w := by
  intro M
  induction M with
  | nil => intro i j; simp [encM, Instr.findAsking, findM]
  | cons e r ih =>
    intro i j
    have hm : ((encM (e :: r)).mapIdx fun q e => (⟨e.1, e.2, q + j⟩ : MapEntry)) = ⟨prV e.1, .int .i64 e.2, 0 + j⟩ :: (encM r).mapIdx fun q e => (⟨e.1, e.2, q + (j + 1)⟩ : MapEntry) := by
      simp only [encM, List.map_cons, List.mapIdx_cons]
      congr 1
      apply List.ext_getElem <;> simp
      omega
    rw [hm, Instr.findAsking]
    simp only [Sem.run_bind, eq70', Result.andThen_ok]
    by_cases h : e.1 = p
    · simp [h, findM, List.findIdx_cons]
    · have e1 : ∀ x : Nat, i + 1 + x = i + (x + 1) := by omega
      simp [h, findM, ih, List.findIdx_cons, e1]
theorem wide70 : (match Try.prog.underlying 70 with | some (.array _ _) | some (.struct _) => true | _ => false) = true := by rw [Try.underlying70]
theorem finds (w : World) (p : Int × Int) (M : Mm) : (Instr.findKey 70 (prV p) ((encM M).mapIdx fun q e => (⟨e.1, e.2, q⟩ : MapEntry))).run Try.prog w =
    .ok (if (findM M p).isSome then some (M.findIdx (fun e => decide (e.1 = p)), .int .i64 ((findM M p).getD 0)) else none) w := by
  rw [run_findKey_eq w wide70]
  have := asks w p M 0 0
  simpa using this
theorem look95 (b : Nat) (M : Mm) (p : Int × Int) (w : World) (hb : w.heap[b]? = some (mpO (encM M))) :
    (Instr.lookup 95 (.map (some b)) (prV p) true).run Try.prog w = .ok (.tuple #[.int .i64 ((findM M p).getD 0), .bool (findM M p).isSome]) w := by
  unfold Instr.lookup
  have hz : (zeroValue 3).run Try.prog w = .ok (.int .i64 0) w := by go_simp
  simp only [Sem.run_bind, run_underlying Try.underlying95, Result.andThen_ok, getMp hb, check70, Sem.run_pure, finds]
  cases h : findM M p <;> simp [Sem.run_bind, hz]
theorem set95 (b : Nat) (M : Mm) (p : Int × Int) (v : Int) (w : World) (hb : w.heap[b]? = some (mpO (encM M))) :
    (Instr.mapUpdate 95 (.map (some b)) (prV p) (.int .i64 v)).run Try.prog w = .ok () { w with heap := w.heap.setIfInBounds b (mpO (encM (putM M p v))) } := by
  unfold Instr.mapUpdate
  simp only [Sem.run_bind, run_underlying Try.underlying95, Result.andThen_ok, getMp hb, check70, finds]
  have key : ∀ (M : Mm), (findM M p).isSome = true → M.findIdx (fun e => decide (e.1 = p)) < M.length ∧ (M[M.findIdx (fun e => decide (e.1 = p))]?).map (·.1) = some p ∧ putM M p v = M.set (M.findIdx (fun e => decide (e.1 = p))) (p, v) := by
    intro M
    induction M with
    | nil => simp [findM]
    | cons e r ih =>
      intro h
      by_cases he : e.1 = p
      · simp [putM, he, List.findIdx_cons]
      · simp only [findM, if_neg he] at h
        obtain ⟨i1, i2, i3⟩ := ih h
        refine ⟨by simp only [List.findIdx_cons, he, decide_false, cond_false, List.length_cons]; omega, by simp only [List.findIdx_cons, he, decide_false, cond_false, List.getElem?_cons_succ]; exact i2, ?_⟩
        simp [putM, he, List.findIdx_cons, i3]
  have key2 : ∀ (M : Mm), (findM M p).isSome = false → putM M p v = M ++ [(p, v)] := by
    intro M
    induction M with
    | nil => simp [putM]
    | cons e r ih =>
      intro h
      by_cases he : e.1 = p
      · simp [findM, he] at h
      · simp only [findM, if_neg he] at h
        simp [putM, he, ih h]
  cases h : (findM M p).isSome
  · simp only [Bool.false_eq_true, if_false]
    rw [setMp _ hb, key2 M h]
    simp [mpO, encM, List.mapIdx_append]
  · obtain ⟨i1, i2, i3⟩ := key M h
    simp only [if_true]
    obtain ⟨e, he⟩ : ∃ e, M[M.findIdx (fun e => decide (e.1 = p))]? = some e := ⟨_, List.getElem?_eq_getElem i1⟩
    rw [he] at i2
    simp only [Option.map_some, Option.some.injEq] at i2
    have hk : (Instr.keyThatStays (prV p) (prV p)).run Try.prog w = .ok (prV p) w := by
      unfold Instr.keyThatStays
      rw [if_pos (by simp [Instr.sameBits])]
      rfl
    have hget : ((((encM M).mapIdx fun q e => (⟨e.1, e.2, q⟩ : MapEntry)).toArray[M.findIdx (fun e => decide (e.1 = p))]?).map (·.key)).getD (prV p) = prV p := by
      simp [encM, he, i2]
    rw [hget]
    simp only [Sem.run_bind, hk, Result.andThen_ok]
    rw [setMp _ hb, i3]
    congr 3
    simp only [mpO, Obj.map.injEq]
    refine ⟨?_, by simp [encM]⟩
    apply Array.ext
    · simp [encM]
    · intro i h1 h2
      simp [encM, Array.getElem_modify, List.getElem_modify, List.getElem_set]
      split
      · rename_i h3; subst h3; simp [eq_comm]
      · rfl
end

section
set_option maxRecDepth 20000
attribute [local go_sem] clRusL
/-- The last of a pair, by pairs that hang on it, with what is known before and behind. -/
inductive Dfs (l : List Ru) : Mm → Int → Int → Int → Mm → Prop
  | loop {M : Mm} {a b : Int} (h : a = -1 ∨ b = -1) : Dfs l M a b (-1) M
  | memo {M : Mm} {a b v : Int} (ha : a ≠ -1) (hb : b ≠ -1) (h : findM M (a, b) = some v) : Dfs l M a b v M
  | kern {M : Mm} {a b : Int} (ha : a ≠ -1) (hb : b ≠ -1) (h : findM M (a, b) = none) (hr : ∀ x, ruleOf l a b = some x → x.o = 0) : Dfs l M a b b M
  | one {M : Mm} {a b : Int} {x : Ru} (ha : a ≠ -1) (hb : b ≠ -1) (h : findM M (a, b) = none) (hr : ruleOf l a b = some x) (ho : x.o ≠ 0 ∧ x.o ≠ 2 ∧ x.o ≠ 3 ∧ x.o ≠ 4) : Dfs l M a b x.v (putM (putM M (a, b) (-1)) (a, b) x.v)
  | left {M M2 : Mm} {a b out : Int} {x : Ru} (ha : a ≠ -1) (hb : b ≠ -1) (h : findM M (a, b) = none) (hr : ruleOf l a b = some x) (ho : x.o = 2) (hd : Dfs l (putM M (a, b) (-1)) a x.v out M2) : Dfs l M a b out (putM M2 (a, b) out)
  | right {M M2 : Mm} {a b out : Int} {x : Ru} (ha : a ≠ -1) (hb : b ≠ -1) (h : findM M (a, b) = none) (hr : ruleOf l a b = some x) (ho : x.o = 3) (hd : Dfs l (putM M (a, b) (-1)) x.v b out M2) : Dfs l M a b out (putM M2 (a, b) out)
  | both {M M2 M3 : Mm} {a b o1 out : Int} {x : Ru} (ha : a ≠ -1) (hb : b ≠ -1) (h : findM M (a, b) = none) (hr : ruleOf l a b = some x) (ho : x.o = 4) (hd : Dfs l (putM M (a, b) (-1)) a x.v o1 M2) (hd2 : Dfs l M2 o1 b out M3) : Dfs l M a b out (putM M3 (a, b) out)
abbrev PvA (l : List Ru) (b : Nat) : AV := .rp [Rus l, .v (.map (some b))] 0
theorem of35 (l : List Ru) (q : Nat) (hl : l.length < 2 ^ 40) (hs : rise l = true) {M M' : Mm} {a b out : Int} (hd : Dfs l M a b out M') : MFun Try.prog 35 [PvA l q, I a, I b] [] 0 (some (q, encM M)) [] (I out) [] 0 (some (q, encM M')) := by
  induction hd with
  | loop h =>
    refine MFun.intro 400 [6] mixed Try.func35 (by kernel_rfl) rfl (by rw [Try.results35]; rfl) (Nat.le_of_ble_eq_true rfl) ?_; rw [Try.ntmps35]
    simp -dsimp -implicitDefEqProofs (maxSteps := 1000000) only [go_sem, ↓reduceIte, Nat.reduceAdd, Nat.reduceSub, Nat.reduceMul, Nat.reduceLT, Nat.reduceLeDiff, Nat.reduceEqDiff, Nat.reduceBEq, Nat.reduceBNe, Int.reduceToNat, Int.reduceLT, Int.reduceLE, Int.reduceNeg, reduceCtorEq, Int.reduceEq, Int.reduceNe]
    refine ⟨fun h1 => FinM.nil rfl (.v _), fun h1 => ⟨fun h2 => FinM.nil rfl (.v _), fun h2 => ?_⟩⟩
    exact absurd h (by simp only [h1, h2, or_self, not_false_eq_true])
  | memo ha hb h =>
    refine MFun.intro 400 [6] mixed Try.func35 (by kernel_rfl) rfl (by rw [Try.results35]; rfl) (Nat.le_of_ble_eq_true rfl) ?_; rw [Try.ntmps35]
    simp -dsimp -implicitDefEqProofs (maxSteps := 1000000) only [go_sem, ↓reduceIte, Nat.reduceAdd, Nat.reduceSub, Nat.reduceMul, Nat.reduceLT, Nat.reduceLeDiff, Nat.reduceEqDiff, Nat.reduceBEq, Nat.reduceBNe, Int.reduceToNat, Int.reduceLT, Int.reduceLE, Int.reduceNeg, reduceCtorEq, Int.reduceEq, Int.reduceNe, ha, hb]
    refine AtOp.look rfl (by simp -dsimp -implicitDefEqProofs (maxSteps := 1000000) only [go_sem, ↓reduceIte, Nat.reduceAdd, Nat.reduceSub, Nat.reduceMul, Nat.reduceLT, Nat.reduceLeDiff, Nat.reduceEqDiff, Nat.reduceBEq, Nat.reduceBNe, Int.reduceToNat, Int.reduceLT, Int.reduceLE, Int.reduceNeg, reduceCtorEq, Int.reduceEq, Int.reduceNe]) (by simp -dsimp -implicitDefEqProofs (maxSteps := 1000000) only [go_sem, ↓reduceIte, Nat.reduceAdd, Nat.reduceSub, Nat.reduceMul, Nat.reduceLT, Nat.reduceLeDiff, Nat.reduceEqDiff, Nat.reduceBEq, Nat.reduceBNe, Int.reduceToNat, Int.reduceLT, Int.reduceLE, Int.reduceNeg, reduceCtorEq, Int.reduceEq, Int.reduceNe]; rfl) (look95 q _ (_, _)) ?_
    simp -dsimp -implicitDefEqProofs (maxSteps := 1000000) only [go_sem, ↓reduceIte, Nat.reduceAdd, Nat.reduceSub, Nat.reduceMul, Nat.reduceLT, Nat.reduceLeDiff, Nat.reduceEqDiff, Nat.reduceBEq, Nat.reduceBNe, Int.reduceToNat, Int.reduceLT, Int.reduceLE, Int.reduceNeg, reduceCtorEq, Int.reduceEq, Int.reduceNe, h, Option.getD_some]
    exact FinM.nil rfl (.v _)
  | @kern M a b ha hb h hr =>
    refine MFun.intro 400 [6] mixed Try.func35 (by kernel_rfl) rfl (by rw [Try.results35]; rfl) (Nat.le_of_ble_eq_true rfl) ?_; rw [Try.ntmps35]
    simp -dsimp -implicitDefEqProofs (maxSteps := 1000000) only [go_sem, ↓reduceIte, Nat.reduceAdd, Nat.reduceSub, Nat.reduceMul, Nat.reduceLT, Nat.reduceLeDiff, Nat.reduceEqDiff, Nat.reduceBEq, Nat.reduceBNe, Int.reduceToNat, Int.reduceLT, Int.reduceLE, Int.reduceNeg, reduceCtorEq, Int.reduceEq, Int.reduceNe, ha, hb]
    refine AtOp.look rfl (by simp -dsimp -implicitDefEqProofs (maxSteps := 1000000) only [go_sem, ↓reduceIte, Nat.reduceAdd, Nat.reduceSub, Nat.reduceMul, Nat.reduceLT, Nat.reduceLeDiff, Nat.reduceEqDiff, Nat.reduceBEq, Nat.reduceBNe, Int.reduceToNat, Int.reduceLT, Int.reduceLE, Int.reduceNeg, reduceCtorEq, Int.reduceEq, Int.reduceNe]) (by simp -dsimp -implicitDefEqProofs (maxSteps := 1000000) only [go_sem, ↓reduceIte, Nat.reduceAdd, Nat.reduceSub, Nat.reduceMul, Nat.reduceLT, Nat.reduceLeDiff, Nat.reduceEqDiff, Nat.reduceBEq, Nat.reduceBNe, Int.reduceToNat, Int.reduceLT, Int.reduceLE, Int.reduceNeg, reduceCtorEq, Int.reduceEq, Int.reduceNe]; rfl) (look95 q _ (_, _)) ?_
    simp -dsimp -implicitDefEqProofs (maxSteps := 1000000) only [go_sem, ↓reduceIte, Nat.reduceAdd, Nat.reduceSub, Nat.reduceMul, Nat.reduceLT, Nat.reduceLeDiff, Nat.reduceEqDiff, Nat.reduceBEq, Nat.reduceBNe, Int.reduceToNat, Int.reduceLT, Int.reduceLE, Int.reduceNeg, reduceCtorEq, Int.reduceEq, Int.reduceNe, h, Option.getD_none]
    refine AtFn.pure0 (ruleOf59 l _ _ hl hs) ?_
    cases hq : ruleOf l a b with
    | none =>
      simp -dsimp -implicitDefEqProofs (maxSteps := 1000000) only [go_sem, ↓reduceIte, Nat.reduceAdd, Nat.reduceSub, Nat.reduceMul, Nat.reduceLT, Nat.reduceLeDiff, Nat.reduceEqDiff, Nat.reduceBEq, Nat.reduceBNe, Int.reduceToNat, Int.reduceLT, Int.reduceLE, Int.reduceNeg, reduceCtorEq, Int.reduceEq, Int.reduceNe]
      exact FinM.nil rfl (.v _)
    | some x =>
      simp -dsimp -implicitDefEqProofs (maxSteps := 1000000) only [go_sem, ↓reduceIte, Nat.reduceAdd, Nat.reduceSub, Nat.reduceMul, Nat.reduceLT, Nat.reduceLeDiff, Nat.reduceEqDiff, Nat.reduceBEq, Nat.reduceBNe, Int.reduceToNat, Int.reduceLT, Int.reduceLE, Int.reduceNeg, reduceCtorEq, Int.reduceEq, Int.reduceNe, Option.getD_some, hr x hq]
      exact FinM.nil rfl (.v _)
  | one ha hb h hr ho =>
    refine MFun.intro 400 [6] mixed Try.func35 (by kernel_rfl) rfl (by rw [Try.results35]; rfl) (Nat.le_of_ble_eq_true rfl) ?_; rw [Try.ntmps35]
    simp -dsimp -implicitDefEqProofs (maxSteps := 1000000) only [go_sem, ↓reduceIte, Nat.reduceAdd, Nat.reduceSub, Nat.reduceMul, Nat.reduceLT, Nat.reduceLeDiff, Nat.reduceEqDiff, Nat.reduceBEq, Nat.reduceBNe, Int.reduceToNat, Int.reduceLT, Int.reduceLE, Int.reduceNeg, reduceCtorEq, Int.reduceEq, Int.reduceNe, ha, hb]
    refine AtOp.look rfl (by simp -dsimp -implicitDefEqProofs (maxSteps := 1000000) only [go_sem, ↓reduceIte, Nat.reduceAdd, Nat.reduceSub, Nat.reduceMul, Nat.reduceLT, Nat.reduceLeDiff, Nat.reduceEqDiff, Nat.reduceBEq, Nat.reduceBNe, Int.reduceToNat, Int.reduceLT, Int.reduceLE, Int.reduceNeg, reduceCtorEq, Int.reduceEq, Int.reduceNe]) (by simp -dsimp -implicitDefEqProofs (maxSteps := 1000000) only [go_sem, ↓reduceIte, Nat.reduceAdd, Nat.reduceSub, Nat.reduceMul, Nat.reduceLT, Nat.reduceLeDiff, Nat.reduceEqDiff, Nat.reduceBEq, Nat.reduceBNe, Int.reduceToNat, Int.reduceLT, Int.reduceLE, Int.reduceNeg, reduceCtorEq, Int.reduceEq, Int.reduceNe]; rfl) (look95 q _ (_, _)) ?_
    simp -dsimp -implicitDefEqProofs (maxSteps := 1000000) only [go_sem, ↓reduceIte, Nat.reduceAdd, Nat.reduceSub, Nat.reduceMul, Nat.reduceLT, Nat.reduceLeDiff, Nat.reduceEqDiff, Nat.reduceBEq, Nat.reduceBNe, Int.reduceToNat, Int.reduceLT, Int.reduceLE, Int.reduceNeg, reduceCtorEq, Int.reduceEq, Int.reduceNe, h, Option.getD_none]
    refine AtFn.pure0 (ruleOf59 l _ _ hl hs) ?_
    simp -dsimp -implicitDefEqProofs (maxSteps := 1000000) only [go_sem, ↓reduceIte, Nat.reduceAdd, Nat.reduceSub, Nat.reduceMul, Nat.reduceLT, Nat.reduceLeDiff, Nat.reduceEqDiff, Nat.reduceBEq, Nat.reduceBNe, Int.reduceToNat, Int.reduceLT, Int.reduceLE, Int.reduceNeg, reduceCtorEq, Int.reduceEq, Int.reduceNe, hr, Option.getD_some]
    simp -dsimp -implicitDefEqProofs (maxSteps := 1000000) only [go_sem, ↓reduceIte, Nat.reduceAdd, Nat.reduceSub, Nat.reduceMul, Nat.reduceLT, Nat.reduceLeDiff, Nat.reduceEqDiff, Nat.reduceBEq, Nat.reduceBNe, Int.reduceToNat, Int.reduceLT, Int.reduceLE, Int.reduceNeg, reduceCtorEq, Int.reduceEq, Int.reduceNe, ho.1, true_implies]
    refine AtOp.upd rfl rfl (by simp -dsimp -implicitDefEqProofs (maxSteps := 1000000) only [go_sem, ↓reduceIte, Nat.reduceAdd, Nat.reduceSub, Nat.reduceMul, Nat.reduceLT, Nat.reduceLeDiff, Nat.reduceEqDiff, Nat.reduceBEq, Nat.reduceBNe, Int.reduceToNat, Int.reduceLT, Int.reduceLE, Int.reduceNeg, reduceCtorEq, Int.reduceEq, Int.reduceNe]) (by simp -dsimp -implicitDefEqProofs (maxSteps := 1000000) only [go_sem, ↓reduceIte, Nat.reduceAdd, Nat.reduceSub, Nat.reduceMul, Nat.reduceLT, Nat.reduceLeDiff, Nat.reduceEqDiff, Nat.reduceBEq, Nat.reduceBNe, Int.reduceToNat, Int.reduceLT, Int.reduceLE, Int.reduceNeg, reduceCtorEq, Int.reduceEq, Int.reduceNe]; rfl) (by simp -dsimp -implicitDefEqProofs (maxSteps := 1000000) only [go_sem, ↓reduceIte, Nat.reduceAdd, Nat.reduceSub, Nat.reduceMul, Nat.reduceLT, Nat.reduceLeDiff, Nat.reduceEqDiff, Nat.reduceBEq, Nat.reduceBNe, Int.reduceToNat, Int.reduceLT, Int.reduceLE, Int.reduceNeg, reduceCtorEq, Int.reduceEq, Int.reduceNe]; rfl) (set95 q _ (_, _) _) ?_
    simp -dsimp -implicitDefEqProofs (maxSteps := 1000000) only [go_sem, ↓reduceIte, Nat.reduceAdd, Nat.reduceSub, Nat.reduceMul, Nat.reduceLT, Nat.reduceLeDiff, Nat.reduceEqDiff, Nat.reduceBEq, Nat.reduceBNe, Int.reduceToNat, Int.reduceLT, Int.reduceLE, Int.reduceNeg, reduceCtorEq, Int.reduceEq, Int.reduceNe]
    simp -dsimp -implicitDefEqProofs (maxSteps := 1000000) only [go_sem, ↓reduceIte, Nat.reduceAdd, Nat.reduceSub, Nat.reduceMul, Nat.reduceLT, Nat.reduceLeDiff, Nat.reduceEqDiff, Nat.reduceBEq, Nat.reduceBNe, Int.reduceToNat, Int.reduceLT, Int.reduceLE, Int.reduceNeg, reduceCtorEq, Int.reduceEq, Int.reduceNe, ho.2.1, ho.2.2.1, ho.2.2.2, true_implies]
    refine AtOp.upd rfl rfl (by simp -dsimp -implicitDefEqProofs (maxSteps := 1000000) only [go_sem, ↓reduceIte, Nat.reduceAdd, Nat.reduceSub, Nat.reduceMul, Nat.reduceLT, Nat.reduceLeDiff, Nat.reduceEqDiff, Nat.reduceBEq, Nat.reduceBNe, Int.reduceToNat, Int.reduceLT, Int.reduceLE, Int.reduceNeg, reduceCtorEq, Int.reduceEq, Int.reduceNe]) (by simp -dsimp -implicitDefEqProofs (maxSteps := 1000000) only [go_sem, ↓reduceIte, Nat.reduceAdd, Nat.reduceSub, Nat.reduceMul, Nat.reduceLT, Nat.reduceLeDiff, Nat.reduceEqDiff, Nat.reduceBEq, Nat.reduceBNe, Int.reduceToNat, Int.reduceLT, Int.reduceLE, Int.reduceNeg, reduceCtorEq, Int.reduceEq, Int.reduceNe]; rfl) (by simp -dsimp -implicitDefEqProofs (maxSteps := 1000000) only [go_sem, ↓reduceIte, Nat.reduceAdd, Nat.reduceSub, Nat.reduceMul, Nat.reduceLT, Nat.reduceLeDiff, Nat.reduceEqDiff, Nat.reduceBEq, Nat.reduceBNe, Int.reduceToNat, Int.reduceLT, Int.reduceLE, Int.reduceNeg, reduceCtorEq, Int.reduceEq, Int.reduceNe]; rfl) (set95 q _ (_, _) _) ?_
    simp -dsimp -implicitDefEqProofs (maxSteps := 1000000) only [go_sem, ↓reduceIte, Nat.reduceAdd, Nat.reduceSub, Nat.reduceMul, Nat.reduceLT, Nat.reduceLeDiff, Nat.reduceEqDiff, Nat.reduceBEq, Nat.reduceBNe, Int.reduceToNat, Int.reduceLT, Int.reduceLE, Int.reduceNeg, reduceCtorEq, Int.reduceEq, Int.reduceNe]
    exact FinM.nil rfl (.v _)
  | left ha hb h hr ho _ ih =>
    refine MFun.intro 400 [6] mixed Try.func35 (by kernel_rfl) rfl (by rw [Try.results35]; rfl) (Nat.le_of_ble_eq_true rfl) ?_; rw [Try.ntmps35]
    simp -dsimp -implicitDefEqProofs (maxSteps := 1000000) only [go_sem, ↓reduceIte, Nat.reduceAdd, Nat.reduceSub, Nat.reduceMul, Nat.reduceLT, Nat.reduceLeDiff, Nat.reduceEqDiff, Nat.reduceBEq, Nat.reduceBNe, Int.reduceToNat, Int.reduceLT, Int.reduceLE, Int.reduceNeg, reduceCtorEq, Int.reduceEq, Int.reduceNe, ha, hb]
    refine AtOp.look rfl (by simp -dsimp -implicitDefEqProofs (maxSteps := 1000000) only [go_sem, ↓reduceIte, Nat.reduceAdd, Nat.reduceSub, Nat.reduceMul, Nat.reduceLT, Nat.reduceLeDiff, Nat.reduceEqDiff, Nat.reduceBEq, Nat.reduceBNe, Int.reduceToNat, Int.reduceLT, Int.reduceLE, Int.reduceNeg, reduceCtorEq, Int.reduceEq, Int.reduceNe]) (by simp -dsimp -implicitDefEqProofs (maxSteps := 1000000) only [go_sem, ↓reduceIte, Nat.reduceAdd, Nat.reduceSub, Nat.reduceMul, Nat.reduceLT, Nat.reduceLeDiff, Nat.reduceEqDiff, Nat.reduceBEq, Nat.reduceBNe, Int.reduceToNat, Int.reduceLT, Int.reduceLE, Int.reduceNeg, reduceCtorEq, Int.reduceEq, Int.reduceNe]; rfl) (look95 q _ (_, _)) ?_
    simp -dsimp -implicitDefEqProofs (maxSteps := 1000000) only [go_sem, ↓reduceIte, Nat.reduceAdd, Nat.reduceSub, Nat.reduceMul, Nat.reduceLT, Nat.reduceLeDiff, Nat.reduceEqDiff, Nat.reduceBEq, Nat.reduceBNe, Int.reduceToNat, Int.reduceLT, Int.reduceLE, Int.reduceNeg, reduceCtorEq, Int.reduceEq, Int.reduceNe, h, Option.getD_none]
    refine AtFn.pure0 (ruleOf59 l _ _ hl hs) ?_
    simp -dsimp -implicitDefEqProofs (maxSteps := 1000000) only [go_sem, ↓reduceIte, Nat.reduceAdd, Nat.reduceSub, Nat.reduceMul, Nat.reduceLT, Nat.reduceLeDiff, Nat.reduceEqDiff, Nat.reduceBEq, Nat.reduceBNe, Int.reduceToNat, Int.reduceLT, Int.reduceLE, Int.reduceNeg, reduceCtorEq, Int.reduceEq, Int.reduceNe, hr, Option.getD_some]
    simp -dsimp -implicitDefEqProofs (maxSteps := 1000000) only [go_sem, ↓reduceIte, Nat.reduceAdd, Nat.reduceSub, Nat.reduceMul, Nat.reduceLT, Nat.reduceLeDiff, Nat.reduceEqDiff, Nat.reduceBEq, Nat.reduceBNe, Int.reduceToNat, Int.reduceLT, Int.reduceLE, Int.reduceNeg, reduceCtorEq, Int.reduceEq, Int.reduceNe, ho, true_implies]
    refine AtOp.upd rfl rfl (by simp -dsimp -implicitDefEqProofs (maxSteps := 1000000) only [go_sem, ↓reduceIte, Nat.reduceAdd, Nat.reduceSub, Nat.reduceMul, Nat.reduceLT, Nat.reduceLeDiff, Nat.reduceEqDiff, Nat.reduceBEq, Nat.reduceBNe, Int.reduceToNat, Int.reduceLT, Int.reduceLE, Int.reduceNeg, reduceCtorEq, Int.reduceEq, Int.reduceNe]) (by simp -dsimp -implicitDefEqProofs (maxSteps := 1000000) only [go_sem, ↓reduceIte, Nat.reduceAdd, Nat.reduceSub, Nat.reduceMul, Nat.reduceLT, Nat.reduceLeDiff, Nat.reduceEqDiff, Nat.reduceBEq, Nat.reduceBNe, Int.reduceToNat, Int.reduceLT, Int.reduceLE, Int.reduceNeg, reduceCtorEq, Int.reduceEq, Int.reduceNe]; rfl) (by simp -dsimp -implicitDefEqProofs (maxSteps := 1000000) only [go_sem, ↓reduceIte, Nat.reduceAdd, Nat.reduceSub, Nat.reduceMul, Nat.reduceLT, Nat.reduceLeDiff, Nat.reduceEqDiff, Nat.reduceBEq, Nat.reduceBNe, Int.reduceToNat, Int.reduceLT, Int.reduceLE, Int.reduceNeg, reduceCtorEq, Int.reduceEq, Int.reduceNe]; rfl) (set95 q _ (_, _) _) ?_
    simp -dsimp -implicitDefEqProofs (maxSteps := 1000000) only [go_sem, ↓reduceIte, Nat.reduceAdd, Nat.reduceSub, Nat.reduceMul, Nat.reduceLT, Nat.reduceLeDiff, Nat.reduceEqDiff, Nat.reduceBEq, Nat.reduceBNe, Int.reduceToNat, Int.reduceLT, Int.reduceLE, Int.reduceNeg, reduceCtorEq, Int.reduceEq, Int.reduceNe]
    simp -dsimp -implicitDefEqProofs (maxSteps := 1000000) only [go_sem, ↓reduceIte, Nat.reduceAdd, Nat.reduceSub, Nat.reduceMul, Nat.reduceLT, Nat.reduceLeDiff, Nat.reduceEqDiff, Nat.reduceBEq, Nat.reduceBNe, Int.reduceToNat, Int.reduceLT, Int.reduceLE, Int.reduceNeg, reduceCtorEq, Int.reduceEq, Int.reduceNe, ho, true_implies]
    refine AtFn.m0 ih (by simp -dsimp -implicitDefEqProofs (maxSteps := 1000000) only [go_sem, ↓reduceIte, Nat.reduceAdd, Nat.reduceSub, Nat.reduceMul, Nat.reduceLT, Nat.reduceLeDiff, Nat.reduceEqDiff, Nat.reduceBEq, Nat.reduceBNe, Int.reduceToNat, Int.reduceLT, Int.reduceLE, Int.reduceNeg, reduceCtorEq, Int.reduceEq, Int.reduceNe]) (.v _) ?_
    simp -dsimp -implicitDefEqProofs (maxSteps := 1000000) only [go_sem, ↓reduceIte, Nat.reduceAdd, Nat.reduceSub, Nat.reduceMul, Nat.reduceLT, Nat.reduceLeDiff, Nat.reduceEqDiff, Nat.reduceBEq, Nat.reduceBNe, Int.reduceToNat, Int.reduceLT, Int.reduceLE, Int.reduceNeg, reduceCtorEq, Int.reduceEq, Int.reduceNe]
    refine AtOp.upd rfl rfl (by simp -dsimp -implicitDefEqProofs (maxSteps := 1000000) only [go_sem, ↓reduceIte, Nat.reduceAdd, Nat.reduceSub, Nat.reduceMul, Nat.reduceLT, Nat.reduceLeDiff, Nat.reduceEqDiff, Nat.reduceBEq, Nat.reduceBNe, Int.reduceToNat, Int.reduceLT, Int.reduceLE, Int.reduceNeg, reduceCtorEq, Int.reduceEq, Int.reduceNe]) (by simp -dsimp -implicitDefEqProofs (maxSteps := 1000000) only [go_sem, ↓reduceIte, Nat.reduceAdd, Nat.reduceSub, Nat.reduceMul, Nat.reduceLT, Nat.reduceLeDiff, Nat.reduceEqDiff, Nat.reduceBEq, Nat.reduceBNe, Int.reduceToNat, Int.reduceLT, Int.reduceLE, Int.reduceNeg, reduceCtorEq, Int.reduceEq, Int.reduceNe]; rfl) (by simp -dsimp -implicitDefEqProofs (maxSteps := 1000000) only [go_sem, ↓reduceIte, Nat.reduceAdd, Nat.reduceSub, Nat.reduceMul, Nat.reduceLT, Nat.reduceLeDiff, Nat.reduceEqDiff, Nat.reduceBEq, Nat.reduceBNe, Int.reduceToNat, Int.reduceLT, Int.reduceLE, Int.reduceNeg, reduceCtorEq, Int.reduceEq, Int.reduceNe]; rfl) (set95 q _ (_, _) _) ?_
    simp -dsimp -implicitDefEqProofs (maxSteps := 1000000) only [go_sem, ↓reduceIte, Nat.reduceAdd, Nat.reduceSub, Nat.reduceMul, Nat.reduceLT, Nat.reduceLeDiff, Nat.reduceEqDiff, Nat.reduceBEq, Nat.reduceBNe, Int.reduceToNat, Int.reduceLT, Int.reduceLE, Int.reduceNeg, reduceCtorEq, Int.reduceEq, Int.reduceNe]
    exact FinM.nil rfl (.v _)
  | right ha hb h hr ho _ ih =>
    refine MFun.intro 400 [6] mixed Try.func35 (by kernel_rfl) rfl (by rw [Try.results35]; rfl) (Nat.le_of_ble_eq_true rfl) ?_; rw [Try.ntmps35]
    simp -dsimp -implicitDefEqProofs (maxSteps := 1000000) only [go_sem, ↓reduceIte, Nat.reduceAdd, Nat.reduceSub, Nat.reduceMul, Nat.reduceLT, Nat.reduceLeDiff, Nat.reduceEqDiff, Nat.reduceBEq, Nat.reduceBNe, Int.reduceToNat, Int.reduceLT, Int.reduceLE, Int.reduceNeg, reduceCtorEq, Int.reduceEq, Int.reduceNe, ha, hb]
    refine AtOp.look rfl (by simp -dsimp -implicitDefEqProofs (maxSteps := 1000000) only [go_sem, ↓reduceIte, Nat.reduceAdd, Nat.reduceSub, Nat.reduceMul, Nat.reduceLT, Nat.reduceLeDiff, Nat.reduceEqDiff, Nat.reduceBEq, Nat.reduceBNe, Int.reduceToNat, Int.reduceLT, Int.reduceLE, Int.reduceNeg, reduceCtorEq, Int.reduceEq, Int.reduceNe]) (by simp -dsimp -implicitDefEqProofs (maxSteps := 1000000) only [go_sem, ↓reduceIte, Nat.reduceAdd, Nat.reduceSub, Nat.reduceMul, Nat.reduceLT, Nat.reduceLeDiff, Nat.reduceEqDiff, Nat.reduceBEq, Nat.reduceBNe, Int.reduceToNat, Int.reduceLT, Int.reduceLE, Int.reduceNeg, reduceCtorEq, Int.reduceEq, Int.reduceNe]; rfl) (look95 q _ (_, _)) ?_
    simp -dsimp -implicitDefEqProofs (maxSteps := 1000000) only [go_sem, ↓reduceIte, Nat.reduceAdd, Nat.reduceSub, Nat.reduceMul, Nat.reduceLT, Nat.reduceLeDiff, Nat.reduceEqDiff, Nat.reduceBEq, Nat.reduceBNe, Int.reduceToNat, Int.reduceLT, Int.reduceLE, Int.reduceNeg, reduceCtorEq, Int.reduceEq, Int.reduceNe, h, Option.getD_none]
    refine AtFn.pure0 (ruleOf59 l _ _ hl hs) ?_
    simp -dsimp -implicitDefEqProofs (maxSteps := 1000000) only [go_sem, ↓reduceIte, Nat.reduceAdd, Nat.reduceSub, Nat.reduceMul, Nat.reduceLT, Nat.reduceLeDiff, Nat.reduceEqDiff, Nat.reduceBEq, Nat.reduceBNe, Int.reduceToNat, Int.reduceLT, Int.reduceLE, Int.reduceNeg, reduceCtorEq, Int.reduceEq, Int.reduceNe, hr, Option.getD_some]
    simp -dsimp -implicitDefEqProofs (maxSteps := 1000000) only [go_sem, ↓reduceIte, Nat.reduceAdd, Nat.reduceSub, Nat.reduceMul, Nat.reduceLT, Nat.reduceLeDiff, Nat.reduceEqDiff, Nat.reduceBEq, Nat.reduceBNe, Int.reduceToNat, Int.reduceLT, Int.reduceLE, Int.reduceNeg, reduceCtorEq, Int.reduceEq, Int.reduceNe, ho, true_implies]
    refine AtOp.upd rfl rfl (by simp -dsimp -implicitDefEqProofs (maxSteps := 1000000) only [go_sem, ↓reduceIte, Nat.reduceAdd, Nat.reduceSub, Nat.reduceMul, Nat.reduceLT, Nat.reduceLeDiff, Nat.reduceEqDiff, Nat.reduceBEq, Nat.reduceBNe, Int.reduceToNat, Int.reduceLT, Int.reduceLE, Int.reduceNeg, reduceCtorEq, Int.reduceEq, Int.reduceNe]) (by simp -dsimp -implicitDefEqProofs (maxSteps := 1000000) only [go_sem, ↓reduceIte, Nat.reduceAdd, Nat.reduceSub, Nat.reduceMul, Nat.reduceLT, Nat.reduceLeDiff, Nat.reduceEqDiff, Nat.reduceBEq, Nat.reduceBNe, Int.reduceToNat, Int.reduceLT, Int.reduceLE, Int.reduceNeg, reduceCtorEq, Int.reduceEq, Int.reduceNe]; rfl) (by simp -dsimp -implicitDefEqProofs (maxSteps := 1000000) only [go_sem, ↓reduceIte, Nat.reduceAdd, Nat.reduceSub, Nat.reduceMul, Nat.reduceLT, Nat.reduceLeDiff, Nat.reduceEqDiff, Nat.reduceBEq, Nat.reduceBNe, Int.reduceToNat, Int.reduceLT, Int.reduceLE, Int.reduceNeg, reduceCtorEq, Int.reduceEq, Int.reduceNe]; rfl) (set95 q _ (_, _) _) ?_
    simp -dsimp -implicitDefEqProofs (maxSteps := 1000000) only [go_sem, ↓reduceIte, Nat.reduceAdd, Nat.reduceSub, Nat.reduceMul, Nat.reduceLT, Nat.reduceLeDiff, Nat.reduceEqDiff, Nat.reduceBEq, Nat.reduceBNe, Int.reduceToNat, Int.reduceLT, Int.reduceLE, Int.reduceNeg, reduceCtorEq, Int.reduceEq, Int.reduceNe]
    simp -dsimp -implicitDefEqProofs (maxSteps := 1000000) only [go_sem, ↓reduceIte, Nat.reduceAdd, Nat.reduceSub, Nat.reduceMul, Nat.reduceLT, Nat.reduceLeDiff, Nat.reduceEqDiff, Nat.reduceBEq, Nat.reduceBNe, Int.reduceToNat, Int.reduceLT, Int.reduceLE, Int.reduceNeg, reduceCtorEq, Int.reduceEq, Int.reduceNe, ho, true_implies]
    refine AtFn.m0 ih (by simp -dsimp -implicitDefEqProofs (maxSteps := 1000000) only [go_sem, ↓reduceIte, Nat.reduceAdd, Nat.reduceSub, Nat.reduceMul, Nat.reduceLT, Nat.reduceLeDiff, Nat.reduceEqDiff, Nat.reduceBEq, Nat.reduceBNe, Int.reduceToNat, Int.reduceLT, Int.reduceLE, Int.reduceNeg, reduceCtorEq, Int.reduceEq, Int.reduceNe]) (.v _) ?_
    simp -dsimp -implicitDefEqProofs (maxSteps := 1000000) only [go_sem, ↓reduceIte, Nat.reduceAdd, Nat.reduceSub, Nat.reduceMul, Nat.reduceLT, Nat.reduceLeDiff, Nat.reduceEqDiff, Nat.reduceBEq, Nat.reduceBNe, Int.reduceToNat, Int.reduceLT, Int.reduceLE, Int.reduceNeg, reduceCtorEq, Int.reduceEq, Int.reduceNe]
    refine AtOp.upd rfl rfl (by simp -dsimp -implicitDefEqProofs (maxSteps := 1000000) only [go_sem, ↓reduceIte, Nat.reduceAdd, Nat.reduceSub, Nat.reduceMul, Nat.reduceLT, Nat.reduceLeDiff, Nat.reduceEqDiff, Nat.reduceBEq, Nat.reduceBNe, Int.reduceToNat, Int.reduceLT, Int.reduceLE, Int.reduceNeg, reduceCtorEq, Int.reduceEq, Int.reduceNe]) (by simp -dsimp -implicitDefEqProofs (maxSteps := 1000000) only [go_sem, ↓reduceIte, Nat.reduceAdd, Nat.reduceSub, Nat.reduceMul, Nat.reduceLT, Nat.reduceLeDiff, Nat.reduceEqDiff, Nat.reduceBEq, Nat.reduceBNe, Int.reduceToNat, Int.reduceLT, Int.reduceLE, Int.reduceNeg, reduceCtorEq, Int.reduceEq, Int.reduceNe]; rfl) (by simp -dsimp -implicitDefEqProofs (maxSteps := 1000000) only [go_sem, ↓reduceIte, Nat.reduceAdd, Nat.reduceSub, Nat.reduceMul, Nat.reduceLT, Nat.reduceLeDiff, Nat.reduceEqDiff, Nat.reduceBEq, Nat.reduceBNe, Int.reduceToNat, Int.reduceLT, Int.reduceLE, Int.reduceNeg, reduceCtorEq, Int.reduceEq, Int.reduceNe]; rfl) (set95 q _ (_, _) _) ?_
    simp -dsimp -implicitDefEqProofs (maxSteps := 1000000) only [go_sem, ↓reduceIte, Nat.reduceAdd, Nat.reduceSub, Nat.reduceMul, Nat.reduceLT, Nat.reduceLeDiff, Nat.reduceEqDiff, Nat.reduceBEq, Nat.reduceBNe, Int.reduceToNat, Int.reduceLT, Int.reduceLE, Int.reduceNeg, reduceCtorEq, Int.reduceEq, Int.reduceNe]
    exact FinM.nil rfl (.v _)
  | both ha hb h hr ho _ _ ih ih2 =>
    refine MFun.intro 400 [6] mixed Try.func35 (by kernel_rfl) rfl (by rw [Try.results35]; rfl) (Nat.le_of_ble_eq_true rfl) ?_; rw [Try.ntmps35]
    simp -dsimp -implicitDefEqProofs (maxSteps := 1000000) only [go_sem, ↓reduceIte, Nat.reduceAdd, Nat.reduceSub, Nat.reduceMul, Nat.reduceLT, Nat.reduceLeDiff, Nat.reduceEqDiff, Nat.reduceBEq, Nat.reduceBNe, Int.reduceToNat, Int.reduceLT, Int.reduceLE, Int.reduceNeg, reduceCtorEq, Int.reduceEq, Int.reduceNe, ha, hb]
    refine AtOp.look rfl (by simp -dsimp -implicitDefEqProofs (maxSteps := 1000000) only [go_sem, ↓reduceIte, Nat.reduceAdd, Nat.reduceSub, Nat.reduceMul, Nat.reduceLT, Nat.reduceLeDiff, Nat.reduceEqDiff, Nat.reduceBEq, Nat.reduceBNe, Int.reduceToNat, Int.reduceLT, Int.reduceLE, Int.reduceNeg, reduceCtorEq, Int.reduceEq, Int.reduceNe]) (by simp -dsimp -implicitDefEqProofs (maxSteps := 1000000) only [go_sem, ↓reduceIte, Nat.reduceAdd, Nat.reduceSub, Nat.reduceMul, Nat.reduceLT, Nat.reduceLeDiff, Nat.reduceEqDiff, Nat.reduceBEq, Nat.reduceBNe, Int.reduceToNat, Int.reduceLT, Int.reduceLE, Int.reduceNeg, reduceCtorEq, Int.reduceEq, Int.reduceNe]; rfl) (look95 q _ (_, _)) ?_
    simp -dsimp -implicitDefEqProofs (maxSteps := 1000000) only [go_sem, ↓reduceIte, Nat.reduceAdd, Nat.reduceSub, Nat.reduceMul, Nat.reduceLT, Nat.reduceLeDiff, Nat.reduceEqDiff, Nat.reduceBEq, Nat.reduceBNe, Int.reduceToNat, Int.reduceLT, Int.reduceLE, Int.reduceNeg, reduceCtorEq, Int.reduceEq, Int.reduceNe, h, Option.getD_none]
    refine AtFn.pure0 (ruleOf59 l _ _ hl hs) ?_
    simp -dsimp -implicitDefEqProofs (maxSteps := 1000000) only [go_sem, ↓reduceIte, Nat.reduceAdd, Nat.reduceSub, Nat.reduceMul, Nat.reduceLT, Nat.reduceLeDiff, Nat.reduceEqDiff, Nat.reduceBEq, Nat.reduceBNe, Int.reduceToNat, Int.reduceLT, Int.reduceLE, Int.reduceNeg, reduceCtorEq, Int.reduceEq, Int.reduceNe, hr, Option.getD_some]
    simp -dsimp -implicitDefEqProofs (maxSteps := 1000000) only [go_sem, ↓reduceIte, Nat.reduceAdd, Nat.reduceSub, Nat.reduceMul, Nat.reduceLT, Nat.reduceLeDiff, Nat.reduceEqDiff, Nat.reduceBEq, Nat.reduceBNe, Int.reduceToNat, Int.reduceLT, Int.reduceLE, Int.reduceNeg, reduceCtorEq, Int.reduceEq, Int.reduceNe, ho, true_implies]
    refine AtOp.upd rfl rfl (by simp -dsimp -implicitDefEqProofs (maxSteps := 1000000) only [go_sem, ↓reduceIte, Nat.reduceAdd, Nat.reduceSub, Nat.reduceMul, Nat.reduceLT, Nat.reduceLeDiff, Nat.reduceEqDiff, Nat.reduceBEq, Nat.reduceBNe, Int.reduceToNat, Int.reduceLT, Int.reduceLE, Int.reduceNeg, reduceCtorEq, Int.reduceEq, Int.reduceNe]) (by simp -dsimp -implicitDefEqProofs (maxSteps := 1000000) only [go_sem, ↓reduceIte, Nat.reduceAdd, Nat.reduceSub, Nat.reduceMul, Nat.reduceLT, Nat.reduceLeDiff, Nat.reduceEqDiff, Nat.reduceBEq, Nat.reduceBNe, Int.reduceToNat, Int.reduceLT, Int.reduceLE, Int.reduceNeg, reduceCtorEq, Int.reduceEq, Int.reduceNe]; rfl) (by simp -dsimp -implicitDefEqProofs (maxSteps := 1000000) only [go_sem, ↓reduceIte, Nat.reduceAdd, Nat.reduceSub, Nat.reduceMul, Nat.reduceLT, Nat.reduceLeDiff, Nat.reduceEqDiff, Nat.reduceBEq, Nat.reduceBNe, Int.reduceToNat, Int.reduceLT, Int.reduceLE, Int.reduceNeg, reduceCtorEq, Int.reduceEq, Int.reduceNe]; rfl) (set95 q _ (_, _) _) ?_
    simp -dsimp -implicitDefEqProofs (maxSteps := 1000000) only [go_sem, ↓reduceIte, Nat.reduceAdd, Nat.reduceSub, Nat.reduceMul, Nat.reduceLT, Nat.reduceLeDiff, Nat.reduceEqDiff, Nat.reduceBEq, Nat.reduceBNe, Int.reduceToNat, Int.reduceLT, Int.reduceLE, Int.reduceNeg, reduceCtorEq, Int.reduceEq, Int.reduceNe]
    simp -dsimp -implicitDefEqProofs (maxSteps := 1000000) only [go_sem, ↓reduceIte, Nat.reduceAdd, Nat.reduceSub, Nat.reduceMul, Nat.reduceLT, Nat.reduceLeDiff, Nat.reduceEqDiff, Nat.reduceBEq, Nat.reduceBNe, Int.reduceToNat, Int.reduceLT, Int.reduceLE, Int.reduceNeg, reduceCtorEq, Int.reduceEq, Int.reduceNe, ho, true_implies]
    refine AtFn.m0 ih (by simp -dsimp -implicitDefEqProofs (maxSteps := 1000000) only [go_sem, ↓reduceIte, Nat.reduceAdd, Nat.reduceSub, Nat.reduceMul, Nat.reduceLT, Nat.reduceLeDiff, Nat.reduceEqDiff, Nat.reduceBEq, Nat.reduceBNe, Int.reduceToNat, Int.reduceLT, Int.reduceLE, Int.reduceNeg, reduceCtorEq, Int.reduceEq, Int.reduceNe]) (.v _) ?_
    simp -dsimp -implicitDefEqProofs (maxSteps := 1000000) only [go_sem, ↓reduceIte, Nat.reduceAdd, Nat.reduceSub, Nat.reduceMul, Nat.reduceLT, Nat.reduceLeDiff, Nat.reduceEqDiff, Nat.reduceBEq, Nat.reduceBNe, Int.reduceToNat, Int.reduceLT, Int.reduceLE, Int.reduceNeg, reduceCtorEq, Int.reduceEq, Int.reduceNe]
    refine AtFn.m0 ih2 (by simp -dsimp -implicitDefEqProofs (maxSteps := 1000000) only [go_sem, ↓reduceIte, Nat.reduceAdd, Nat.reduceSub, Nat.reduceMul, Nat.reduceLT, Nat.reduceLeDiff, Nat.reduceEqDiff, Nat.reduceBEq, Nat.reduceBNe, Int.reduceToNat, Int.reduceLT, Int.reduceLE, Int.reduceNeg, reduceCtorEq, Int.reduceEq, Int.reduceNe]) (.v _) ?_
    simp -dsimp -implicitDefEqProofs (maxSteps := 1000000) only [go_sem, ↓reduceIte, Nat.reduceAdd, Nat.reduceSub, Nat.reduceMul, Nat.reduceLT, Nat.reduceLeDiff, Nat.reduceEqDiff, Nat.reduceBEq, Nat.reduceBNe, Int.reduceToNat, Int.reduceLT, Int.reduceLE, Int.reduceNeg, reduceCtorEq, Int.reduceEq, Int.reduceNe]
    refine AtOp.upd rfl rfl (by simp -dsimp -implicitDefEqProofs (maxSteps := 1000000) only [go_sem, ↓reduceIte, Nat.reduceAdd, Nat.reduceSub, Nat.reduceMul, Nat.reduceLT, Nat.reduceLeDiff, Nat.reduceEqDiff, Nat.reduceBEq, Nat.reduceBNe, Int.reduceToNat, Int.reduceLT, Int.reduceLE, Int.reduceNeg, reduceCtorEq, Int.reduceEq, Int.reduceNe]) (by simp -dsimp -implicitDefEqProofs (maxSteps := 1000000) only [go_sem, ↓reduceIte, Nat.reduceAdd, Nat.reduceSub, Nat.reduceMul, Nat.reduceLT, Nat.reduceLeDiff, Nat.reduceEqDiff, Nat.reduceBEq, Nat.reduceBNe, Int.reduceToNat, Int.reduceLT, Int.reduceLE, Int.reduceNeg, reduceCtorEq, Int.reduceEq, Int.reduceNe]; rfl) (by simp -dsimp -implicitDefEqProofs (maxSteps := 1000000) only [go_sem, ↓reduceIte, Nat.reduceAdd, Nat.reduceSub, Nat.reduceMul, Nat.reduceLT, Nat.reduceLeDiff, Nat.reduceEqDiff, Nat.reduceBEq, Nat.reduceBNe, Int.reduceToNat, Int.reduceLT, Int.reduceLE, Int.reduceNeg, reduceCtorEq, Int.reduceEq, Int.reduceNe]; rfl) (set95 q _ (_, _) _) ?_
    simp -dsimp -implicitDefEqProofs (maxSteps := 1000000) only [go_sem, ↓reduceIte, Nat.reduceAdd, Nat.reduceSub, Nat.reduceMul, Nat.reduceLT, Nat.reduceLeDiff, Nat.reduceEqDiff, Nat.reduceBEq, Nat.reduceBNe, Int.reduceToNat, Int.reduceLT, Int.reduceLE, Int.reduceNeg, reduceCtorEq, Int.reduceEq, Int.reduceNe]
    exact FinM.nil rfl (.v _)
end

section
set_option maxRecDepth 20000
attribute [local go_sem] clRusL
/-- The last of a pair, to be computed. -/
def dfsF (l : List Ru) : Nat → Mm → Int → Int → Int × Mm
  | 0, M, _, _ => (-1, M)
  | n + 1, M, a, b =>
    if a = -1 ∨ b = -1 then (-1, M) else
    match findM M (a, b) with
    | some v => (v, M)
    | none =>
      match ruleOf l a b with
      | none => (b, M)
      | some x =>
        if x.o = 0 then (b, M) else
        let r := if x.o = 2 then dfsF l n (putM M (a, b) (-1)) a x.v else if x.o = 3 then dfsF l n (putM M (a, b) (-1)) x.v b else if x.o = 4 then dfsF l n (dfsF l n (putM M (a, b) (-1)) a x.v).2 (dfsF l n (putM M (a, b) (-1)) a x.v).1 b else (x.v, putM M (a, b) (-1))
        (r.1, putM r.2 (a, b) r.1)
/-- The rules whose pairs are not known yet. -/
def unk (l : List Ru) (M : Mm) : Nat := l.countP fun r => (findM M (r.f, r.n)).isNone
theorem countP_lt {α : Type} {p q : α → Bool} {l : List α} (h : ∀ x, q x = true → p x = true) {x : α} (hx : x ∈ l) (h1 : p x = true) (h2 : q x = false) : l.countP q < l.countP p := by
  induction l with
  | nil => simp at hx
  | cons y r ih =>
    have hle : r.countP q ≤ r.countP p := List.countP_mono_left fun z _ => h z
    simp only [List.countP_cons]
    rcases List.mem_cons.1 hx with rfl | hx
    · rw [h1, h2]; simp only [Bool.false_eq_true, if_false, if_true]; omega
    · have := ih hx
      cases hq : q y
      · cases hp : p y <;> simp only [Bool.false_eq_true, if_false, if_true] <;> omega
      · rw [h y hq]; simp only [if_true]; omega
theorem ruleOf_mem {l : List Ru} {a b : Int} {x : Ru} (h : ruleOf l a b = some x) : x ∈ l ∧ x.f = a ∧ x.n = b := by
  unfold ruleOf at h
  have h1 := List.mem_of_find?_eq_some h
  have h2 := List.find?_some h
  simp only [hit, Bool.and_eq_true, decide_eq_true_eq] at h2
  exact ⟨h1, h2⟩
/-- More is known. -/
def Mle (M M' : Mm) : Prop := ∀ p, (findM M p).isSome = true → (findM M' p).isSome = true
theorem Mle.put {M : Mm} (p : Int × Int) (v : Int) : Mle M (putM M p v) := by
  intro q hq
  rw [findM_putM]
  split
  · rfl
  · exact hq
theorem unk_mono {l : List Ru} {M M' : Mm} (h : Mle M M') : unk l M' ≤ unk l M := by
  refine List.countP_mono_left fun r _ hr => ?_
  cases hf : findM M (r.f, r.n) with
  | none => rfl
  | some v =>
    have := h (r.f, r.n) (by rw [hf]; rfl)
    cases hg : findM M' (r.f, r.n) with
    | none => rw [hg] at this; cases this
    | some _ => rw [hg] at hr; cases hr
theorem unk_put {l : List Ru} {M : Mm} {a b v : Int} {x : Ru} (hr : ruleOf l a b = some x) (h : findM M (a, b) = none) : unk l (putM M (a, b) v) < unk l M := by
  obtain ⟨h1, h2, h3⟩ := ruleOf_mem hr
  refine countP_lt (x := x) (fun r hr => ?_) h1 (by simp only [h2, h3, h]; rfl) (by simp only [h2, h3, findM_putM, if_true]; rfl)
  rw [findM_putM] at hr
  split at hr
  · cases hr
  · exact hr
theorem dfsF_ok (l : List Ru) : ∀ (n : Nat) (M : Mm) (a b : Int), unk l M < n → Dfs l M a b (dfsF l n M a b).1 (dfsF l n M a b).2 ∧ Mle M (dfsF l n M a b).2 := by
  intro n
  induction n with
  | zero => intro M a b h; omega
  | succ n ih =>
    intro M a b hu
    unfold dfsF
    by_cases hab : a = -1 ∨ b = -1
    · rw [if_pos hab]; exact ⟨.loop hab, fun _ h => h⟩
    · rw [if_neg hab]
      have ha : a ≠ -1 := fun h => hab (.inl h)
      have hb : b ≠ -1 := fun h => hab (.inr h)
      cases hf : findM M (a, b) with
      | some v => exact ⟨.memo ha hb hf, fun _ h => h⟩
      | none =>
        simp only
        cases hr : ruleOf l a b with
        | none => exact ⟨.kern ha hb hf (fun x hx => by rw [hr] at hx; cases hx), fun _ h => h⟩
        | some x =>
          simp only
          have h1 : unk l (putM M (a, b) (-1)) < n := by have := unk_put (v := -1) hr hf; omega
          have hp := Mle.put (M := M) (a, b) (-1)
          by_cases h0 : x.o = 0
          · rw [if_pos h0]; exact ⟨.kern ha hb hf (fun y hy => by rw [hr] at hy; cases hy; exact h0), fun _ h => h⟩
          · rw [if_neg h0]
            by_cases h2 : x.o = 2
            · simp only [if_pos h2]
              obtain ⟨i1, i2⟩ := ih (putM M (a, b) (-1)) a x.v h1
              exact ⟨.left ha hb hf hr h2 i1, fun q hq => Mle.put _ _ q (i2 q (hp q hq))⟩
            · by_cases h3 : x.o = 3
              · simp only [if_neg h2, if_pos h3]
                obtain ⟨i1, i2⟩ := ih (putM M (a, b) (-1)) x.v b h1
                exact ⟨.right ha hb hf hr h3 i1, fun q hq => Mle.put _ _ q (i2 q (hp q hq))⟩
              · by_cases h4 : x.o = 4
                · simp only [if_neg h2, if_neg h3, if_pos h4]
                  obtain ⟨i1, i2⟩ := ih (putM M (a, b) (-1)) a x.v h1
                  obtain ⟨j1, j2⟩ := ih (dfsF l n (putM M (a, b) (-1)) a x.v).2 (dfsF l n (putM M (a, b) (-1)) a x.v).1 b (Nat.lt_of_le_of_lt (unk_mono i2) h1)
                  exact ⟨.both ha hb hf hr h4 i1 j1, fun q hq => Mle.put _ _ q (j2 q (i2 q (hp q hq)))⟩
                · simp only [if_neg h2, if_neg h3, if_neg h4]
                  exact ⟨.one ha hb hf hr ⟨h0, h2, h3, h4⟩, fun q hq => Mle.put _ _ q (hp q hq)⟩
theorem dfsF_full (l : List Ru) (M : Mm) (a b : Int) : Dfs l M a b (dfsF l (l.length + 1) M a b).1 (dfsF l (l.length + 1) M a b).2 :=
  (dfsF_ok l _ M a b (Nat.lt_succ_of_le List.countP_le_length)).1
def lastW (l : List Ru) (a b : Int) : Int := (dfsF l (l.length + 1) [] a b).1
abbrev lastR (l : List Ru) (a b : Int) : AV := if validR l && inCode a && inCode b then (if lastW l a b = -1 then .t [I 0, I 22] else .t [I (lastW l a b), I 0]) else .t [I 0, I 2]
theorem valid_iff {l : List Ru} (h : validR l = true) : l.length ≤ 500 ∧ l.all okR = true ∧ rise l = true := by
  simpa [validR, and_assoc] using h
theorem clLastR (l : List Ru) (a b : Int) : Cl (lastR l a b) := by
  unfold lastR
  split
  · split <;> simp [Cl_t, Cl_v]
  · simp [Cl_t, Cl_v]
theorem last13 (l : List Ru) (a b : Int) (hl : l.length < 2 ^ 62) : PFun Try.prog 13 [Rus l, I a, I b] (lastR l a b) := by
  refine PFun.introM 400 mixed Try.func13 (by kernel_rfl) rfl (clLastR l a b) (Nat.le_of_ble_eq_true rfl) ?_; rw [Try.ntmps13, Try.results13]
  simp -dsimp -implicitDefEqProofs (maxSteps := 1000000) only [go_sem, ↓reduceIte, Nat.reduceAdd, Nat.reduceSub, Nat.reduceMul, Nat.reduceLT, Nat.reduceLeDiff, Nat.reduceEqDiff, Nat.reduceBEq, Nat.reduceBNe, Int.reduceToNat, Int.reduceLT, Int.reduceLE, Int.reduceNeg, reduceCtorEq, Int.reduceEq, Int.reduceNe]
  refine AtFn.pure0 (valid17 l hl) ?_
  simp -dsimp -implicitDefEqProofs (maxSteps := 1000000) only [go_sem, ↓reduceIte, Nat.reduceAdd, Nat.reduceSub, Nat.reduceMul, Nat.reduceLT, Nat.reduceLeDiff, Nat.reduceEqDiff, Nat.reduceBEq, Nat.reduceBNe, Int.reduceToNat, Int.reduceLT, Int.reduceLE, Int.reduceNeg, reduceCtorEq, Int.reduceEq, Int.reduceNe]
  cases hv : validR l
  · simp -dsimp -implicitDefEqProofs (maxSteps := 1000000) only [go_sem, ↓reduceIte, Nat.reduceAdd, Nat.reduceSub, Nat.reduceMul, Nat.reduceLT, Nat.reduceLeDiff, Nat.reduceEqDiff, Nat.reduceBEq, Nat.reduceBNe, Int.reduceToNat, Int.reduceLT, Int.reduceLE, Int.reduceNeg, reduceCtorEq, Int.reduceEq, Int.reduceNe]
    simp only [lastR, hv, Bool.false_and, Bool.false_eq_true, if_false]
  · simp -dsimp -implicitDefEqProofs (maxSteps := 1000000) only [go_sem, ↓reduceIte, Nat.reduceAdd, Nat.reduceSub, Nat.reduceMul, Nat.reduceLT, Nat.reduceLeDiff, Nat.reduceEqDiff, Nat.reduceBEq, Nat.reduceBNe, Int.reduceToNat, Int.reduceLT, Int.reduceLE, Int.reduceNeg, reduceCtorEq, Int.reduceEq, Int.reduceNe]
    refine AtFn.pure0 (isCode33 a) ?_
    simp -dsimp -implicitDefEqProofs (maxSteps := 1000000) only [go_sem, ↓reduceIte, Nat.reduceAdd, Nat.reduceSub, Nat.reduceMul, Nat.reduceLT, Nat.reduceLeDiff, Nat.reduceEqDiff, Nat.reduceBEq, Nat.reduceBNe, Int.reduceToNat, Int.reduceLT, Int.reduceLE, Int.reduceNeg, reduceCtorEq, Int.reduceEq, Int.reduceNe]
    cases ha : inCode a
    · simp -dsimp -implicitDefEqProofs (maxSteps := 1000000) only [go_sem, ↓reduceIte, Nat.reduceAdd, Nat.reduceSub, Nat.reduceMul, Nat.reduceLT, Nat.reduceLeDiff, Nat.reduceEqDiff, Nat.reduceBEq, Nat.reduceBNe, Int.reduceToNat, Int.reduceLT, Int.reduceLE, Int.reduceNeg, reduceCtorEq, Int.reduceEq, Int.reduceNe]
      simp only [lastR, hv, ha, Bool.and_false, Bool.false_and, Bool.false_eq_true, if_false]
    · have hl5 := (valid_iff hv).1
      simp -dsimp -implicitDefEqProofs (maxSteps := 1000000) only [go_sem, ↓reduceIte, Nat.reduceAdd, Nat.reduceSub, Nat.reduceMul, Nat.reduceLT, Nat.reduceLeDiff, Nat.reduceEqDiff, Nat.reduceBEq, Nat.reduceBNe, Int.reduceToNat, Int.reduceLT, Int.reduceLE, Int.reduceNeg, reduceCtorEq, Int.reduceEq, Int.reduceNe]
      refine AtFn.pure0 (isCode33 b) ?_
      simp -dsimp -implicitDefEqProofs (maxSteps := 1000000) only [go_sem, ↓reduceIte, Nat.reduceAdd, Nat.reduceSub, Nat.reduceMul, Nat.reduceLT, Nat.reduceLeDiff, Nat.reduceEqDiff, Nat.reduceBEq, Nat.reduceBNe, Int.reduceToNat, Int.reduceLT, Int.reduceLE, Int.reduceNeg, reduceCtorEq, Int.reduceEq, Int.reduceNe]
      cases hb : inCode b
      · simp -dsimp -implicitDefEqProofs (maxSteps := 1000000) only [go_sem, ↓reduceIte, Nat.reduceAdd, Nat.reduceSub, Nat.reduceMul, Nat.reduceLT, Nat.reduceLeDiff, Nat.reduceEqDiff, Nat.reduceBEq, Nat.reduceBNe, Int.reduceToNat, Int.reduceLT, Int.reduceLE, Int.reduceNeg, reduceCtorEq, Int.reduceEq, Int.reduceNe]
        simp only [lastR, hv, ha, hb, Bool.and_false, Bool.false_and, Bool.false_eq_true, if_false]
      · simp -dsimp -implicitDefEqProofs (maxSteps := 1000000) only [go_sem, ↓reduceIte, Nat.reduceAdd, Nat.reduceSub, Nat.reduceMul, Nat.reduceLT, Nat.reduceLeDiff, Nat.reduceEqDiff, Nat.reduceBEq, Nat.reduceBNe, Int.reduceToNat, Int.reduceLT, Int.reduceLE, Int.reduceNeg, reduceCtorEq, Int.reduceEq, Int.reduceNe]
        refine AtFn.inl 400 [2] mixed Try.func34 (by kernel_rfl) rfl (by rw [Try.results34]; rfl) (Nat.le_of_ble_eq_true rfl) ?_; rw [Try.ntmps34]
        simp -dsimp -implicitDefEqProofs (maxSteps := 1000000) only [go_sem, ↓reduceIte, Nat.reduceAdd, Nat.reduceSub, Nat.reduceMul, Nat.reduceLT, Nat.reduceLeDiff, Nat.reduceEqDiff, Nat.reduceBEq, Nat.reduceBNe, Int.reduceToNat, Int.reduceLT, Int.reduceLE, Int.reduceNeg, reduceCtorEq, Int.reduceEq, Int.reduceNe]
        refine AtOp.mkMap rfl fun q => ?_
        simp -dsimp -implicitDefEqProofs (maxSteps := 1000000) only [go_sem, ↓reduceIte, Nat.reduceAdd, Nat.reduceSub, Nat.reduceMul, Nat.reduceLT, Nat.reduceLeDiff, Nat.reduceEqDiff, Nat.reduceBEq, Nat.reduceBNe, Int.reduceToNat, Int.reduceLT, Int.reduceLE, Int.reduceNeg, reduceCtorEq, Int.reduceEq, Int.reduceNe]
        have hd := of35 l q (by omega) (valid_iff hv).2.2 (dfsF_full l [] a b)
        refine AtFn.m0f (m1 := some (q, encM (dfsF l (l.length + 1) [] a b).2)) (R := I (lastW l a b)) (as' := [PvA l q, I a, I b]) (ns := [0]) (by simp -dsimp -implicitDefEqProofs (maxSteps := 1000000) only [go_sem, ↓reduceIte, Nat.reduceAdd, Nat.reduceSub, Nat.reduceMul, Nat.reduceLT, Nat.reduceLeDiff, Nat.reduceEqDiff, Nat.reduceBEq, Nat.reduceBNe, Int.reduceToNat, Int.reduceLT, Int.reduceLE, Int.reduceNeg, reduceCtorEq, Int.reduceEq, Int.reduceNe]) (by simp -dsimp -implicitDefEqProofs (maxSteps := 1000000) only [go_sem, ↓reduceIte, Nat.reduceAdd, Nat.reduceSub, Nat.reduceMul, Nat.reduceLT, Nat.reduceLeDiff, Nat.reduceEqDiff, Nat.reduceBEq, Nat.reduceBNe, Int.reduceToNat, Int.reduceLT, Int.reduceLE, Int.reduceNeg, reduceCtorEq, Int.reduceEq, Int.reduceNe]) hd (by simp -dsimp -implicitDefEqProofs (maxSteps := 1000000) only [go_sem, ↓reduceIte, Nat.reduceAdd, Nat.reduceSub, Nat.reduceMul, Nat.reduceLT, Nat.reduceLeDiff, Nat.reduceEqDiff, Nat.reduceBEq, Nat.reduceBNe, Int.reduceToNat, Int.reduceLT, Int.reduceLE, Int.reduceNeg, reduceCtorEq, Int.reduceEq, Int.reduceNe]) (.v _) ?_
        simp -dsimp -implicitDefEqProofs (maxSteps := 1000000) only [go_sem, ↓reduceIte, Nat.reduceAdd, Nat.reduceSub, Nat.reduceMul, Nat.reduceLT, Nat.reduceLeDiff, Nat.reduceEqDiff, Nat.reduceBEq, Nat.reduceBNe, Int.reduceToNat, Int.reduceLT, Int.reduceLE, Int.reduceNeg, reduceCtorEq, Int.reduceEq, Int.reduceNe]
        simp only [lastR, hv, ha, hb, Bool.and_true, if_true]
        exact ⟨fun h => by rw [if_pos h], fun h => by rw [if_neg h]⟩
/-- The first rule whose pair does not end. -/
def endsL (l : List Ru) : List Ru → Mm → Option Ru
  | [], _ => none
  | x :: r, M => if (dfsF l (l.length + 1) M x.f x.n).1 = -1 then some x else endsL l r (dfsF l (l.length + 1) M x.f x.n).2
abbrev endsR (l : List Ru) : AV := match endsL l l [] with | some x => .t [.g [I x.f, I x.n], Bo false] | none => .t [.g [I 0, I 0], Bo true]
theorem clEndsR (l : List Ru) : Cl (endsR l) := by
  unfold endsR
  split <;> simp [Cl_t, Cl_v, Cl_g]
theorem ends39 (l : List Ru) (hv : validR l = true) : PFun Try.prog 39 [Rus l] (endsR l) := by
  have hl5 := (valid_iff hv).1
  refine PFun.introM 400 mixed Try.func39 (by kernel_rfl) rfl (clEndsR l) (Nat.le_of_ble_eq_true rfl) ?_; rw [Try.ntmps39, Try.results39]
  simp -dsimp -implicitDefEqProofs (maxSteps := 1000000) only [go_sem, ↓reduceIte, Nat.reduceAdd, Nat.reduceSub, Nat.reduceMul, Nat.reduceLT, Nat.reduceLeDiff, Nat.reduceEqDiff, Nat.reduceBEq, Nat.reduceBNe, Int.reduceToNat, Int.reduceLT, Int.reduceLE, Int.reduceNeg, reduceCtorEq, Int.reduceEq, Int.reduceNe]
  refine AtFn.inl 400 [2] mixed Try.func34 (by kernel_rfl) rfl (by rw [Try.results34]; rfl) (Nat.le_of_ble_eq_true rfl) ?_; rw [Try.ntmps34]
  simp -dsimp -implicitDefEqProofs (maxSteps := 1000000) only [go_sem, ↓reduceIte, Nat.reduceAdd, Nat.reduceSub, Nat.reduceMul, Nat.reduceLT, Nat.reduceLeDiff, Nat.reduceEqDiff, Nat.reduceBEq, Nat.reduceBNe, Int.reduceToNat, Int.reduceLT, Int.reduceLE, Int.reduceNeg, reduceCtorEq, Int.reduceEq, Int.reduceNe]
  refine AtOp.mkMap rfl fun q => ?_
  simp -dsimp -implicitDefEqProofs (maxSteps := 1000000) only [go_sem, ↓reduceIte, Nat.reduceAdd, Nat.reduceSub, Nat.reduceMul, Nat.reduceLT, Nat.reduceLeDiff, Nat.reduceEqDiff, Nat.reduceBEq, Nat.reduceBNe, Int.reduceToNat, Int.reduceLT, Int.reduceLE, Int.reduceNeg, reduceCtorEq, Int.reduceEq, Int.reduceNe, List.length_map]
  refine ⟨{p : Nat × Mm // p.1 ≤ l.length ∧ endsL l l [] = endsL l (l.drop p.1) p.2}, fun p => ⟨29, tl [(2, .ptr 0 0 0), (4, PvA l q), (9, Rus l), (10, I l.length), (11, I p.1.1)], [(0, ⟨2, [[I 0, I 0]]⟩)], 1, ⟨[], some (.mp (some (q, encM p.1.2)))⟩⟩, fun p => l.length - p.1.1,
    ⟨⟨(0, []), by simp, by simp⟩, Le.ftl (Ls := []) [1] [] ?_ ?_ (by simp) (by simp [sg]) trivial⟩, fun i => ?_⟩
  · simp -dsimp -implicitDefEqProofs (maxSteps := 1000000) only [go_sem, ↓reduceIte, Nat.reduceAdd, Nat.reduceSub, Nat.reduceMul, Nat.reduceLT, Nat.reduceLeDiff, Nat.reduceEqDiff, Nat.reduceBEq, Nat.reduceBNe, Int.reduceToNat, Int.reduceLT, Int.reduceLE, Int.reduceNeg, reduceCtorEq, Int.reduceEq, Int.reduceNe, fz]
  · simp -dsimp -implicitDefEqProofs (maxSteps := 1000000) only [go_sem, ↓reduceIte, Nat.reduceAdd, Nat.reduceSub, Nat.reduceMul, Nat.reduceLT, Nat.reduceLeDiff, Nat.reduceEqDiff, Nat.reduceBEq, Nat.reduceBNe, Int.reduceToNat, Int.reduceLT, Int.reduceLE, Int.reduceNeg, reduceCtorEq, Int.reduceEq, Int.reduceNe, fz, fzB]
    exact renL_cl rfl (by simp -dsimp -implicitDefEqProofs (maxSteps := 1000000) only [go_sem, ↓reduceIte, Nat.reduceAdd, Nat.reduceSub, Nat.reduceMul, Nat.reduceLT, Nat.reduceLeDiff, Nat.reduceEqDiff, Nat.reduceBEq, Nat.reduceBNe, Int.reduceToNat, Int.reduceLT, Int.reduceLE, Int.reduceNeg, reduceCtorEq, Int.reduceEq, Int.reduceNe])
  · obtain ⟨⟨i, M⟩, hi, hall⟩ := i
    simp only at hi hall
    simp -dsimp -implicitDefEqProofs (maxSteps := 1000000) only [go_sem, ↓reduceIte, Nat.reduceAdd, Nat.reduceSub, Nat.reduceMul, Nat.reduceLT, Nat.reduceLeDiff, Nat.reduceEqDiff, Nat.reduceBEq, Nat.reduceBNe, Int.reduceToNat, Int.reduceLT, Int.reduceLE, Int.reduceNeg, reduceCtorEq, Int.reduceEq, Int.reduceNe, List.length_map]
    refine ⟨fun h => ?_, fun h => ?_⟩
    · have hlt : i < l.length := by omega
      simp -dsimp -implicitDefEqProofs (maxSteps := 1000000) only [go_sem, ↓reduceIte, Nat.reduceAdd, Nat.reduceSub, Nat.reduceMul, Nat.reduceLT, Nat.reduceLeDiff, Nat.reduceEqDiff, Nat.reduceBEq, Nat.reduceBNe, Int.reduceToNat, Int.reduceLT, Int.reduceLE, Int.reduceNeg, reduceCtorEq, Int.reduceEq, Int.reduceNe, List.getElem?_map, Int.toNat_natCast, Int.natCast_nonneg, getR hlt]
      have hd := of35 l q (by omega) (valid_iff hv).2.2 (dfsF_full l M (l.getD i zR).f (l.getD i zR).n)
      refine AtFn.m0 hd (by simp -dsimp -implicitDefEqProofs (maxSteps := 1000000) only [go_sem, ↓reduceIte, Nat.reduceAdd, Nat.reduceSub, Nat.reduceMul, Nat.reduceLT, Nat.reduceLeDiff, Nat.reduceEqDiff, Nat.reduceBEq, Nat.reduceBNe, Int.reduceToNat, Int.reduceLT, Int.reduceLE, Int.reduceNeg, reduceCtorEq, Int.reduceEq, Int.reduceNe]) (.v _) ?_
      simp -dsimp -implicitDefEqProofs (maxSteps := 1000000) only [go_sem, ↓reduceIte, Nat.reduceAdd, Nat.reduceSub, Nat.reduceMul, Nat.reduceLT, Nat.reduceLeDiff, Nat.reduceEqDiff, Nat.reduceBEq, Nat.reduceBNe, Int.reduceToNat, Int.reduceLT, Int.reduceLE, Int.reduceNeg, reduceCtorEq, Int.reduceEq, Int.reduceNe]
      have hdr : l.drop i = l.getD i zR :: l.drop (i + 1) := by
        have e : l.getD i zR = l[i] := by simp [List.getD, hlt]
        rw [e]
        exact List.drop_eq_getElem_cons hlt
      rw [hdr] at hall
      refine ⟨fun h1 => ?_, fun h1 => ?_⟩
      · simp only [endsL, if_pos h1] at hall
        simp only [endsR, hall]
      · simp only [endsL, if_neg h1] at hall
        refine ⟨⟨(i + 1, _), by show i + 1 ≤ l.length; omega, hall⟩, by show l.length - (i + 1) < l.length - i; omega, Le.tl (Ls := []) [] ?_ ?_ (by simp) (by simp [sg]) trivial⟩
        · simp -dsimp -implicitDefEqProofs (maxSteps := 1000000) only [go_sem, ↓reduceIte, Nat.reduceAdd, Nat.reduceSub, Nat.reduceMul, Nat.reduceLT, Nat.reduceLeDiff, Nat.reduceEqDiff, Nat.reduceBEq, Nat.reduceBNe, Int.reduceToNat, Int.reduceLT, Int.reduceLE, Int.reduceNeg, reduceCtorEq, Int.reduceEq, Int.reduceNe]
          rw [wr_in (by omega) (by omega)]
          rfl
        · simp -dsimp -implicitDefEqProofs (maxSteps := 1000000) only [go_sem, ↓reduceIte, Nat.reduceAdd, Nat.reduceSub, Nat.reduceMul, Nat.reduceLT, Nat.reduceLeDiff, Nat.reduceEqDiff, Nat.reduceBEq, Nat.reduceBNe, Int.reduceToNat, Int.reduceLT, Int.reduceLE, Int.reduceNeg, reduceCtorEq, Int.reduceEq, Int.reduceNe]
          exact renL_cl rfl (by simp -dsimp -implicitDefEqProofs (maxSteps := 1000000) only [go_sem, ↓reduceIte, Nat.reduceAdd, Nat.reduceSub, Nat.reduceMul, Nat.reduceLT, Nat.reduceLeDiff, Nat.reduceEqDiff, Nat.reduceBEq, Nat.reduceBNe, Int.reduceToNat, Int.reduceLT, Int.reduceLE, Int.reduceNeg, reduceCtorEq, Int.reduceEq, Int.reduceNe])
    · have hi' : i = l.length := by omega
      subst hi'
      simp only [List.drop_length, endsL] at hall
      simp only [endsR, hall]
abbrev endR (l : List Ru) : AV := if validR l then (match endsL l l [] with | some x => .t [.g [I x.f, I x.n], Bo false, I 0] | none => .t [.g [I 0, I 0], Bo true, I 0]) else .t [.g [I 0, I 0], Bo false, I 2]
theorem clEndR (l : List Ru) : Cl (endR l) := by
  unfold endR
  split
  · split <;> simp [Cl_t, Cl_v, Cl_g]
  · simp [Cl_t, Cl_v, Cl_g]
theorem ends15 (l : List Ru) (hl : l.length < 2 ^ 62) : PFun Try.prog 15 [Rus l] (endR l) := by
  refine PFun.intro 400 mixed Try.func15 (by kernel_rfl) rfl (clEndR l) (Nat.le_of_ble_eq_true rfl) ?_; rw [Try.ntmps15, Try.results15]
  simp -dsimp -implicitDefEqProofs (maxSteps := 1000000) only [go_sem, ↓reduceIte, Nat.reduceAdd, Nat.reduceSub, Nat.reduceMul, Nat.reduceLT, Nat.reduceLeDiff, Nat.reduceEqDiff, Nat.reduceBEq, Nat.reduceBNe, Int.reduceToNat, Int.reduceLT, Int.reduceLE, Int.reduceNeg, reduceCtorEq, Int.reduceEq, Int.reduceNe]
  refine AtFn.pure0 (valid17 l hl) ?_
  simp -dsimp -implicitDefEqProofs (maxSteps := 1000000) only [go_sem, ↓reduceIte, Nat.reduceAdd, Nat.reduceSub, Nat.reduceMul, Nat.reduceLT, Nat.reduceLeDiff, Nat.reduceEqDiff, Nat.reduceBEq, Nat.reduceBNe, Int.reduceToNat, Int.reduceLT, Int.reduceLE, Int.reduceNeg, reduceCtorEq, Int.reduceEq, Int.reduceNe]
  cases hv : validR l
  · simp -dsimp -implicitDefEqProofs (maxSteps := 1000000) only [go_sem, ↓reduceIte, Nat.reduceAdd, Nat.reduceSub, Nat.reduceMul, Nat.reduceLT, Nat.reduceLeDiff, Nat.reduceEqDiff, Nat.reduceBEq, Nat.reduceBNe, Int.reduceToNat, Int.reduceLT, Int.reduceLE, Int.reduceNeg, reduceCtorEq, Int.reduceEq, Int.reduceNe]
    simp only [endR, hv, Bool.false_eq_true, if_false]
  · simp -dsimp -implicitDefEqProofs (maxSteps := 1000000) only [go_sem, ↓reduceIte, Nat.reduceAdd, Nat.reduceSub, Nat.reduceMul, Nat.reduceLT, Nat.reduceLeDiff, Nat.reduceEqDiff, Nat.reduceBEq, Nat.reduceBNe, Int.reduceToNat, Int.reduceLT, Int.reduceLE, Int.reduceNeg, reduceCtorEq, Int.reduceEq, Int.reduceNe]
    have f := ends39 l hv
    simp only [endsR] at f
    cases he : endsL l l [] with
    | none =>
      rw [he] at f
      refine AtFn.pure0 f ?_
      simp -dsimp -implicitDefEqProofs (maxSteps := 1000000) only [go_sem, ↓reduceIte, Nat.reduceAdd, Nat.reduceSub, Nat.reduceMul, Nat.reduceLT, Nat.reduceLeDiff, Nat.reduceEqDiff, Nat.reduceBEq, Nat.reduceBNe, Int.reduceToNat, Int.reduceLT, Int.reduceLE, Int.reduceNeg, reduceCtorEq, Int.reduceEq, Int.reduceNe]
      simp only [endR, hv, he, if_true]
    | some x =>
      rw [he] at f
      refine AtFn.pure0 f ?_
      simp -dsimp -implicitDefEqProofs (maxSteps := 1000000) only [go_sem, ↓reduceIte, Nat.reduceAdd, Nat.reduceSub, Nat.reduceMul, Nat.reduceLT, Nat.reduceLeDiff, Nat.reduceEqDiff, Nat.reduceBEq, Nat.reduceBNe, Int.reduceToNat, Int.reduceLT, Int.reduceLE, Int.reduceNeg, reduceCtorEq, Int.reduceEq, Int.reduceNe]
      simp only [endR, hv, he, if_true]
end

section
set_option maxRecDepth 20000
attribute [local go_sem] clRusL
/-- Cells of ints. -/
abbrev Cs (W : List Int) : List (List AV) := W.map fun x => [I x]
theorem getCs {W : List Int} {i : Nat} (h : i < W.length) : (Cs W)[i]? = some [I (W.getD i 0)] := by simp [Cs, List.getD, h]
theorem setCs (W : List Int) (i : Nat) (x : Int) : (Cs W).set i [I x] = Cs (W.set i x) := by simp [Cs, List.map_set]
theorem clCs (W : List Int) : ∀ c ∈ Cs W, ∀ s ∈ c, Cl s := by
  intro c hc s hs
  obtain ⟨x, _, rfl⟩ := List.mem_map.1 hc
  simp at hs; subst hs; exact .v _
def code (x : Int) : Prop := 0 ≤ x ∧ x ≤ 255
def ix (a b : Int) : Nat := (256 * a + b).toNat
theorem ix_eq {a b : Int} (ha : code a) (hb : code b) : (ix a b : Int) = 256 * a + b ∧ ix a b < 65536 := by
  unfold code at ha hb; unfold ix; omega
theorem ix_inj {a b c d : Int} (ha : code a) (hb : code b) (hc : code c) (hd : code d) (h : ix a b = ix c d) : a = c ∧ b = d := by
  unfold code at *; unfold ix at h; omega
structure RowsOk (l : List Ru) (W : List Int) : Prop where
  len : W.length = 65536
  no : ∀ a b, code a → code b → ruleOf l a b = none → W.getD (ix a b) 0 = 0
  yes : ∀ a b x, code a → code b → ruleOf l a b = some x → ∃ i, i < l.length ∧ l.getD i zR = x ∧ W.getD (ix a b) 0 = (i : Int) + 1
theorem okCode {l : List Ru} (h : validR l = true) {i : Nat} (hi : i < l.length) : code (l.getD i zR).f ∧ code (l.getD i zR).n ∧ ((l.getD i zR).o ≠ 0 → code (l.getD i zR).v) := by
  have h1 := List.all_eq_true.1 (valid_iff h).2.1 _ (List.mem_of_getElem? (getR hi))
  obtain ⟨g1, g2, _, _, g3⟩ := (okR_iff _).1 h1
  refine ⟨g1, g2, fun h0 => ?_⟩
  rw [if_neg h0] at g3
  simpa [inCode, code] using g3
/-- The rows of the first i rules. -/
structure RowsTo (l : List Ru) (i : Nat) (W : List Int) : Prop where
  len : W.length = 65536
  no : ∀ a b, code a → code b → (∀ j, j < i → hit a b (l.getD j zR) = false) → W.getD (ix a b) 0 = 0
  yes : ∀ j, j < i → W.getD (ix (l.getD j zR).f (l.getD j zR).n) 0 = (j : Int) + 1
theorem repGet (n i : Nat) : (List.replicate n (0 : Int)).getD i 0 = 0 := by
  simp only [List.getD, List.getElem?_replicate]
  split <;> rfl
theorem getSet (W : List Int) (i j : Nat) (v : Int) (h : i < W.length) : (W.set i v).getD j 0 = if i = j then v else W.getD j 0 := by
  simp only [List.getD, List.getElem?_set]
  by_cases e : i = j
  · subst e; simp [h]
  · simp [e]
theorem RowsTo.zero (l : List Ru) : RowsTo l 0 (List.replicate 65536 0) := by
  exact ⟨List.length_replicate, fun a b ha hb _ => repGet _ _, fun j hj => by omega⟩
theorem RowsTo.step {l : List Ru} (hv : validR l = true) {i : Nat} {W : List Int} (h : RowsTo l i W) (hi : i < l.length) : RowsTo l (i + 1) (W.set (ix (l.getD i zR).f (l.getD i zR).n) ((i : Int) + 1)) := by
  obtain ⟨c1, c2, _⟩ := okCode hv hi
  have hx := (ix_eq c1 c2).2
  refine ⟨by simp [h.len], fun a b ha hb hn => ?_, fun j hj => ?_⟩
  · rw [getSet _ _ _ _ (by rw [h.len]; exact hx)]
    have h1 := hn i (by omega)
    rw [if_neg]
    · exact h.no a b ha hb fun j hj => hn j (by omega)
    · intro e
      obtain ⟨e1, e2⟩ := ix_inj c1 c2 ha hb e
      simp only [hit, e1, e2, decide_true, Bool.and_self] at h1
      cases h1
  · rw [getSet _ _ _ _ (by rw [h.len]; exact hx)]
    by_cases hji : j = i
    · subst hji; rw [if_pos rfl]
    · obtain ⟨d1, d2, _⟩ := okCode hv (show j < l.length by omega)
      rw [if_neg]
      · exact h.yes j (by omega)
      · intro e
        obtain ⟨e1, e2⟩ := ix_inj c1 c2 d1 d2 e
        have := rise_lt (valid_iff hv).2.2 i j (by omega) hi
        rw [cmpP_neg] at this
        omega
theorem RowsTo.ok {l : List Ru} (hv : validR l = true) {W : List Int} (h : RowsTo l l.length W) : RowsOk l W := by
  refine ⟨h.len, fun a b ha hb hn => h.no a b ha hb fun j hj => ?_, fun a b x ha hb hx => ?_⟩
  · unfold ruleOf at hn
    rw [List.find?_eq_none] at hn
    have := hn _ (List.mem_of_getElem? (getR hj))
    simpa using this
  · obtain ⟨h1, h2⟩ := ruleOf_idx (valid_iff hv).2.2 hx
    rw [getR h2] at h1
    simp only [Option.some.injEq] at h1
    obtain ⟨_, g2, g3⟩ := ruleOf_mem hx
    refine ⟨_, h2, h1, ?_⟩
    have := h.yes _ h2
    rw [h1, g2, g3] at this
    exact this
/-- What the program knows, as the reference knows it. -/
structure RelK (l : List Ru) (M : Mm) (K : List Int) : Prop where
  len : K.length = 65536
  no : ∀ a b, code a → code b → findM M (a, b) = none → K.getD (ix a b) 0 = 0
  yes : ∀ a b v, code a → code b → findM M (a, b) = some v → (v = -1 ∧ K.getD (ix a b) 0 < 0) ∨ (code v ∧ K.getD (ix a b) 0 = v + 1)
  key : ∀ a b v, findM M (a, b) = some v → ∃ x, ruleOf l a b = some x ∧ x.o ≠ 0
theorem RelK.zero (l : List Ru) : RelK l [] (List.replicate 65536 0) := by
  exact ⟨List.length_replicate, fun a b ha hb _ => repGet _ _, fun a b v _ _ h => (by cases h), fun a b v h => (by cases h)⟩
theorem RelK.put {l : List Ru} {M : Mm} {K : List Int} (h : RelK l M K) {a b v w : Int} {x : Ru} (ha : code a) (hb : code b) (hx : ruleOf l a b = some x) (h0 : x.o ≠ 0) (hv : (v = -1 ∧ w < 0) ∨ (code v ∧ w = v + 1)) : RelK l (putM M (a, b) v) (K.set (ix a b) w) := by
  have hi := (ix_eq ha hb).2
  refine ⟨by simp [h.len], fun c d hc hd hn => ?_, fun c d u hc hd hs => ?_, fun c d u hs => ?_⟩
  · rw [findM_putM] at hn
    split at hn
    · cases hn
    · rename_i hne
      rw [getSet _ _ _ _ (by rw [h.len]; exact hi), if_neg]
      · exact h.no c d hc hd hn
      · intro e
        obtain ⟨e1, e2⟩ := ix_inj ha hb hc hd e
        exact hne (by rw [e1, e2])
  · rw [findM_putM] at hs
    split at hs
    · rename_i he
      simp only [Prod.mk.injEq] at he
      obtain ⟨rfl, rfl⟩ := he
      cases hs
      rw [getSet _ _ _ _ (by rw [h.len]; exact hi), if_pos rfl]
      exact hv
    · rename_i hne
      rw [getSet _ _ _ _ (by rw [h.len]; exact hi), if_neg]
      · exact h.yes c d u hc hd hs
      · intro e
        obtain ⟨e1, e2⟩ := ix_inj ha hb hc hd e
        exact hne (by rw [e1, e2])
  · rw [findM_putM] at hs
    split at hs
    · rename_i he
      simp only [Prod.mk.injEq] at he
      obtain ⟨rfl, rfl⟩ := he
      exact ⟨x, hx, h0⟩
    · exact h.key c d u hs
end

section
set_option maxRecDepth 20000
attribute [local go_sem] clRusL
abbrev hC (l : List Ru) (W K : List Int) : List (Nat × Blk) := [(0, ⟨3, [[Rus l, .sl 1 0 65536, .sl 2 0 65536]]⟩), (1, ⟨1, Cs W⟩), (2, ⟨1, Cs K⟩)]
end

section
set_option maxRecDepth 20000
attribute [local go_sem] clRusL clSets
/-- Cells of sets. -/
abbrev Ss (d : List (Int × Int)) : List (List AV) := d.map fun p => [I p.1, I p.2]
theorem clSs (d : List (Int × Int)) : ∀ c ∈ Ss d, ∀ s ∈ c, Cl s := (clSets d).2 trivial
/-- A line in work: what is done, the one that is looked at, those that come, how many rules were applied. -/
structure S4 where
  d : List (Int × Int)
  p : Int
  q : List Int
  s : Nat
/-- One turn, where c is next and q comes behind it. -/
def turnW (l : List Ru) (d : List (Int × Int)) (p : Int) (c : Int) (q : List Int) (s : Nat) : Option S4 :=
  match ruleOf l p c with
  | none => some ⟨d ++ [(p, 0)], c, q, s⟩
  | some x =>
    if s = 200000 then none
    else if x.o = 0 then some ⟨d ++ [(p, x.v)], c, q, s + 1⟩
    else if x.o = 1 then some ⟨d, x.v, q, s + 1⟩
    else if x.o = 2 then some ⟨d, p, x.v :: q, s + 1⟩
    else if x.o = 3 then some ⟨d, x.v, c :: q, s + 1⟩
    else some ⟨d, p, x.v :: c :: q, s + 1⟩
/-- Turn after turn, so many at most. -/
def setF (l : List Ru) (most : Nat) : Nat → S4 → S4 × Int
  | 0, t => (t, 0)
  | n + 1, t =>
    match t.q with
    | [] => (t, 0)
    | c :: q =>
      match turnW l t.d t.p c q t.s with
      | none => (t, 21)
      | some t' => if t'.d.length + t'.q.length > most then (t', 3) else setF l most n t'
abbrev hS (l : List Ru) (t : S4) : List (Nat × Blk) := [(0, ⟨5, [[Rus l, .sl 1 0 t.d.length, .sl 2 0 t.q.length, I t.p, I t.s]]⟩), (1, ⟨2, Ss t.d⟩), (2, ⟨1, Cs t.q.reverse⟩)]
theorem getLast (q : List Int) (c : Int) : (Cs (q.reverse ++ [c]))[q.length]? = some [I c] := by
  simp [Cs, List.getElem?_append_right]
theorem takeCs (q : List Int) (c : Int) : (Cs (q.reverse ++ [c])).take q.length = Cs q.reverse := by
  simp [Cs, List.take_append]
theorem takeSs (d : List (Int × Int)) : takeA 0 d.length (Ss d) = Ss d := by simp [takeA]
theorem takeCs2 (q : List Int) (c : Int) : takeA 0 (q.length + 1) (Cs (q.reverse ++ [c])) = Cs (q.reverse ++ [c]) := by simp [takeA]
theorem zRv : zR.v = 0 := rfl
theorem zRo : zR.o = 0 := rfl
theorem zRf : zR.f = 0 := rfl
theorem zRn : zR.n = 0 := rfl
theorem snocSs (d : List (Int × Int)) (a b : Int) : Ss d ++ [[I a, I b]] = Ss (d ++ [(a, b)]) := by simp [Ss]
theorem snocCs (d : List Int) (a : Int) : Cs d ++ [[I a]] = Cs (d ++ [a]) := by simp [Cs]
theorem setLast (q : List Int) (c v : Int) : (Cs (q.reverse ++ [c])).set q.length [I v] = Cs (q.reverse ++ [v]) := by
  simp [Cs, List.set_append]
theorem set45 (l : List Ru) (most : Nat) (hl : l.length < 2 ^ 40) (hr : rise l = true) (hm : most < 2 ^ 30) (n : Nat) (t : S4) (hs : t.s ≤ 200000) (hn : 2 * (200000 - t.s) + t.q.length < n) (hd : t.d.length + t.q.length ≤ most + 1) :
    MFun Try.prog 45 [.ptr 0 0 0, I most] (hS l t) 3 none [0] (I (setF l most n t).2) (hS l (setF l most n t).1) 3 none := by
  obtain ⟨res, hres⟩ : ∃ res, res = setF l most n t := ⟨_, rfl⟩
  rw [← hres]
  refine MFun.intro 400 [4] mixed Try.func45 (by kernel_rfl) rfl (by rw [Try.results45]; rfl) (Nat.le_of_ble_eq_true rfl) ?_; rw [Try.ntmps45]
  simp -dsimp -implicitDefEqProofs (maxSteps := 1000000) only [go_sem, ↓reduceIte, Nat.reduceAdd, Nat.reduceSub, Nat.reduceMul, Nat.reduceLT, Nat.reduceLeDiff, Nat.reduceEqDiff, Nat.reduceBEq, Nat.reduceBNe, Int.reduceToNat, Int.reduceLT, Int.reduceLE, Int.reduceNeg, reduceCtorEq, Int.reduceEq, Int.reduceNe]
  refine ⟨{p : Nat × S4 // p.2.s ≤ 200000 ∧ 2 * (200000 - p.2.s) + p.2.q.length < p.1 ∧ p.2.d.length + p.2.q.length ≤ most + 1 ∧ res = setF l most p.1 p.2}, fun p => ⟨30, tl [(0, .ptr 0 0 0), (1, I most)], hS l p.1.2, 3, ⟨[tl [(0, .ptr 0 0 0)]], some (.mp none)⟩⟩, fun p => p.1.1,
    ⟨⟨(n, t), hs, hn, hd, hres⟩, Le.tl (Ls := [[(0, .ptr 0 0 0)]]) [] (by simp -dsimp -implicitDefEqProofs (maxSteps := 1000000) only [go_sem, ↓reduceIte, Nat.reduceAdd, Nat.reduceSub, Nat.reduceMul, Nat.reduceLT, Nat.reduceLeDiff, Nat.reduceEqDiff, Nat.reduceBEq, Nat.reduceBNe, Int.reduceToNat, Int.reduceLT, Int.reduceLE, Int.reduceNeg, reduceCtorEq, Int.reduceEq, Int.reduceNe]) ?_ (by simp) (by simp [sg]) ⟨by simp -dsimp -implicitDefEqProofs (maxSteps := 1000000) only [go_sem, ↓reduceIte, Nat.reduceAdd, Nat.reduceSub, Nat.reduceMul, Nat.reduceLT, Nat.reduceLeDiff, Nat.reduceEqDiff, Nat.reduceBEq, Nat.reduceBNe, Int.reduceToNat, Int.reduceLT, Int.reduceLE, Int.reduceNeg, reduceCtorEq, Int.reduceEq, Int.reduceNe], trivial⟩⟩, fun p => ?_⟩
  · simp -dsimp -implicitDefEqProofs (maxSteps := 1000000) only [go_sem, ↓reduceIte, Nat.reduceAdd, Nat.reduceSub, Nat.reduceMul, Nat.reduceLT, Nat.reduceLeDiff, Nat.reduceEqDiff, Nat.reduceBEq, Nat.reduceBNe, Int.reduceToNat, Int.reduceLT, Int.reduceLE, Int.reduceNeg, reduceCtorEq, Int.reduceEq, Int.reduceNe]
    exact ⟨renL_F (by simp -dsimp -implicitDefEqProofs (maxSteps := 1000000) only [go_sem, ↓reduceIte, Nat.reduceAdd, Nat.reduceSub, Nat.reduceMul, Nat.reduceLT, Nat.reduceLeDiff, Nat.reduceEqDiff, Nat.reduceBEq, Nat.reduceBNe, Int.reduceToNat, Int.reduceLT, Int.reduceLE, Int.reduceNeg, reduceCtorEq, Int.reduceEq, Int.reduceNe]), renL_cl rfl (clSs _), renL_cl rfl (clCs _)⟩
  · obtain ⟨⟨m, d, p, q, s⟩, hs, hn, hd, he⟩ := p
    simp only at hs hn hd he
    simp -dsimp -implicitDefEqProofs (maxSteps := 1000000) only [go_sem, ↓reduceIte, Nat.reduceAdd, Nat.reduceSub, Nat.reduceMul, Nat.reduceLT, Nat.reduceLeDiff, Nat.reduceEqDiff, Nat.reduceBEq, Nat.reduceBNe, Int.reduceToNat, Int.reduceLT, Int.reduceLE, Int.reduceNeg, reduceCtorEq, Int.reduceEq, Int.reduceNe]
    refine ⟨fun h => ?_, fun h => ?_⟩
    · match m, q, hn, hd, he, h with
      | m + 1, c :: q, hn, hd, he, h =>
        simp only [List.length_cons] at hn hd
        have e1 : wr (((q.length + 1 : Nat) : Int) - 1) = (q.length : Int) := by rw [wr_in] <;> omega
        have hq : (q.length : Int) < ((q.length + 1 : Nat) : Int) := by omega
        refine AtFn.inl 400 [2] mixed Try.func68 (by kernel_rfl) rfl (by rw [Try.results68]; rfl) (Nat.le_of_ble_eq_true rfl) ?_; rw [Try.ntmps68]
        simp -dsimp -implicitDefEqProofs (maxSteps := 1000000) only [go_sem, ↓reduceIte, Nat.reduceAdd, Nat.reduceSub, Nat.reduceMul, Nat.reduceLT, Nat.reduceLeDiff, Nat.reduceEqDiff, Nat.reduceBEq, Nat.reduceBNe, Int.reduceToNat, Int.reduceLT, Int.reduceLE, Int.reduceNeg, reduceCtorEq, Int.reduceEq, Int.reduceNe, e1, hq, List.reverse_cons, Int.natCast_nonneg, Int.toNat_natCast, Nat.zero_add, getLast]
        refine AtCode.drawB 14 [([], []), ([0], []), ([0, 1], []), ([0, 1, 2], []), ([], []), ([4], []), ([4, 5], []), ([4, 5, 6], []), ([], []), ([0, 1, 2, 3, 4, 5, 6, 7, 8], []), ([0, 1, 2, 3, 4, 5, 6, 7, 8, 9], []), ([0, 1, 2, 3, 4, 5, 6, 7, 8, 9, 10], []), ([0, 1, 2, 3, 4, 5, 6, 7, 8, 9, 10], [16]), ([], []), ([0, 1, 2, 3, 4, 5, 6, 7, 8, 9, 10, 11, 13], []), ([0, 1, 2, 3, 4, 5, 6, 7, 8, 9, 10, 11, 12, 13, 14], [])] [false, true] (by kernel_rfl) ?_
        simp -dsimp -implicitDefEqProofs (maxSteps := 1000000) only [go_sem, ↓reduceIte, Nat.reduceAdd, Nat.reduceSub, Nat.reduceMul, Nat.reduceLT, Nat.reduceLeDiff, Nat.reduceEqDiff, Nat.reduceBEq, Nat.reduceBNe, Int.reduceToNat, Int.reduceLT, Int.reduceLE, Int.reduceNeg, reduceCtorEq, Int.reduceEq, Int.reduceNe]
        refine QFn.use _ (ruleOf59 l p c hl hr) (by simp -dsimp -implicitDefEqProofs (maxSteps := 1000000) only [go_sem, ↓reduceIte, Nat.reduceAdd, Nat.reduceSub, Nat.reduceMul, Nat.reduceLT, Nat.reduceLeDiff, Nat.reduceEqDiff, Nat.reduceBEq, Nat.reduceBNe, Int.reduceToNat, Int.reduceLT, Int.reduceLE, Int.reduceNeg, reduceCtorEq, Int.reduceEq, Int.reduceNe]) ?_
        unfold setF at he
        simp only [turnW] at he
        cases hx : ruleOf l p c with
        | none =>
          rw [hx] at he
          simp only at he
          simp -dsimp -implicitDefEqProofs (maxSteps := 1000000) only [go_sem, ↓reduceIte, Nat.reduceAdd, Nat.reduceSub, Nat.reduceMul, Nat.reduceLT, Nat.reduceLeDiff, Nat.reduceEqDiff, Nat.reduceBEq, Nat.reduceBNe, Int.reduceToNat, Int.reduceLT, Int.reduceLE, Int.reduceNeg, reduceCtorEq, Int.reduceEq, Int.reduceNe, Option.getD_none, zRv, zRo, zRf, zRn]
          have hdl : d.length ≤ 1099511627775 := by omega
          refine ⟨by kernel_rfl, AtCode.drawB 13 [([], [1]), ([], []), ([1], []), ([1, 2], []), ([1, 2, 3], []), ([], []), ([5], []), ([5, 6], []), ([5, 6, 7], []), ([], []), ([9], []), ([5, 6, 7, 8, 9, 10], []), ([5, 6, 7, 8, 9, 10, 11], []), ([1, 2, 3, 4, 5, 6, 7, 8, 9, 10, 11, 12], []), ([0, 1, 2, 3, 4, 5, 6, 7, 8, 9, 10, 11, 12, 13], []), ([0, 1, 2, 3, 4, 5, 6, 7, 8, 9, 10, 11, 12, 13, 14], []), ([0, 1, 2, 3, 4, 5, 6, 7, 8, 9, 10, 11, 12, 13, 14, 15], [])] [false, true, true, true] (by kernel_rfl) ?_⟩
          simp -dsimp -implicitDefEqProofs (maxSteps := 1000000) only [go_sem, ↓reduceIte, Nat.reduceAdd, Nat.reduceSub, Nat.reduceMul, Nat.reduceLT, Nat.reduceLeDiff, Nat.reduceEqDiff, Nat.reduceBEq, Nat.reduceBNe, Int.reduceToNat, Int.reduceLT, Int.reduceLE, Int.reduceNeg, reduceCtorEq, Int.reduceEq, Int.reduceNe, Option.getD_none, zRv, zRo, zRf, zRn, List.length_map, Int.natCast_nonneg, Int.toNat_natCast, List.length_append, List.length_reverse, List.reverse_cons, takeSs, Nat.zero_add, Nat.le_refl, hdl]
          refine ⟨by kernel_rfl, AtCode.drawB 11 [([], []), ([], [0]), ([], []), ([], []), ([3], []), ([3, 4], []), ([3, 4, 5], []), ([], [0]), ([3, 4, 5, 6, 7], [0]), ([0, 2, 3, 4, 5, 6], []), ([0, 2, 3, 4, 5, 6, 9], []), ([0, 2, 3, 4, 5, 6, 9, 10], []), ([0, 1, 2, 3, 4, 5, 6, 7, 8, 9, 10, 11], []), ([0, 1, 2, 3, 4, 5, 6, 7, 8, 9, 10, 11, 12], []), ([0, 1, 2, 3, 4, 5, 6, 7, 8, 9, 10, 11, 12, 13], [])] [false, true, true, true] (by kernel_rfl) ?_⟩
          simp -dsimp -implicitDefEqProofs (maxSteps := 1000000) only [go_sem, ↓reduceIte, Nat.reduceAdd, Nat.reduceSub, Nat.reduceMul, Nat.reduceLT, Nat.reduceLeDiff, Nat.reduceEqDiff, Nat.reduceBEq, Nat.reduceBNe, Int.reduceToNat, Int.reduceLT, Int.reduceLE, Int.reduceNeg, reduceCtorEq, Int.reduceEq, Int.reduceNe, List.length_map, Int.natCast_nonneg, Int.toNat_natCast, List.length_append, List.length_reverse, List.reverse_cons, snocSs]
          refine ⟨by omega, by kernel_rfl, ?_⟩
          have e4 : wr (((d.length + 1 : Nat) : Int) + ((q.length : Nat) : Int)) = ((d.length + 1 + q.length : Nat) : Int) := by rw [wr_in] <;> omega
          refine AtCode.draw 13 [([], []), ([0], []), ([0, 1], []), ([0, 1, 2], []), ([0, 1, 2, 3], []), ([], []), ([5], []), ([5, 6], []), ([5, 6, 7], []), ([5, 6, 7, 8], []), ([0, 1, 2, 3, 4, 5, 6, 7, 8, 9], []), ([], []), ([0, 1, 2, 3, 4, 5, 6, 7, 8, 9, 10, 11], [])] (by kernel_rfl) ?_
          simp -dsimp -implicitDefEqProofs (maxSteps := 1000000) only [go_sem, ↓reduceIte, Nat.reduceAdd, Nat.reduceSub, Nat.reduceMul, Nat.reduceLT, Nat.reduceLeDiff, Nat.reduceEqDiff, Nat.reduceBEq, Nat.reduceBNe, Int.reduceToNat, Int.reduceLT, Int.reduceLE, Int.reduceNeg, reduceCtorEq, Int.reduceEq, Int.reduceNe, List.length_map, List.length_append, List.length_reverse, Nat.sub_zero, Nat.zero_add, e4, takeCs]
          refine ⟨fun h5 => ?_, fun h5 => ?_⟩
          · rw [if_pos (by first | omega | (simp only [List.length_append, List.length_cons, List.length_nil]; omega))] at he
            rw [he]
            refine FinM.le (Le.cut 2 q.length) ?_
            simp only [i_cut_cons, i_cut_nil, Nat.reduceEqDiff, if_true, if_false, reduceCtorEq, takeCs, ↓reduceIte]
            refine FinM.mk [(1, 30)] [(0, .ptr 0 0 0)] (by simp -dsimp -implicitDefEqProofs (maxSteps := 1000000) only [go_sem, ↓reduceIte, Nat.reduceAdd, Nat.reduceSub, Nat.reduceMul, Nat.reduceLT, Nat.reduceLeDiff, Nat.reduceEqDiff, Nat.reduceBEq, Nat.reduceBNe, Int.reduceToNat, Int.reduceLT, Int.reduceLE, Int.reduceNeg, reduceCtorEq, Int.reduceEq, Int.reduceNe]) ?_ (by simp) (by simp [sg]) (by simp -dsimp -implicitDefEqProofs (maxSteps := 1000000) only [go_sem, ↓reduceIte, Nat.reduceAdd, Nat.reduceSub, Nat.reduceMul, Nat.reduceLT, Nat.reduceLeDiff, Nat.reduceEqDiff, Nat.reduceBEq, Nat.reduceBNe, Int.reduceToNat, Int.reduceLT, Int.reduceLE, Int.reduceNeg, reduceCtorEq, Int.reduceEq, Int.reduceNe]) ?_
            · simp -dsimp -implicitDefEqProofs (maxSteps := 1000000) only [go_sem, ↓reduceIte, Nat.reduceAdd, Nat.reduceSub, Nat.reduceMul, Nat.reduceLT, Nat.reduceLeDiff, Nat.reduceEqDiff, Nat.reduceBEq, Nat.reduceBNe, Int.reduceToNat, Int.reduceLT, Int.reduceLE, Int.reduceNeg, reduceCtorEq, Int.reduceEq, Int.reduceNe, takeCs, List.length_append, List.reverse_cons]
              exact ⟨renL_F (by simp -dsimp -implicitDefEqProofs (maxSteps := 1000000) only [go_sem, ↓reduceIte, Nat.reduceAdd, Nat.reduceSub, Nat.reduceMul, Nat.reduceLT, Nat.reduceLeDiff, Nat.reduceEqDiff, Nat.reduceBEq, Nat.reduceBNe, Int.reduceToNat, Int.reduceLT, Int.reduceLE, Int.reduceNeg, reduceCtorEq, Int.reduceEq, Int.reduceNe]; try exact ⟨trivial, rfl⟩), renL_cl (by simp [Ss]) (clSs _), renL_cl (by simp [Cs]) (clCs _)⟩
            · intro n hn
              simp only [List.mem_singleton] at hn
              subst hn
              exact ⟨0, _, _, rfl, rfl, rfl, rfl, rfl, by simp, by simp⟩
          · rw [if_neg (by first | omega | (simp only [List.length_append, List.length_cons, List.length_nil]; omega))] at he
            refine ⟨⟨(m, ⟨d ++ [(p, 0)], c, q, s⟩), by show s ≤ 200000; omega, by
              show 2 * (200000 - (s)) + (q).length < m; try simp only [List.length_cons]
              omega, by
              show (d ++ [(p, 0)]).length + (q).length ≤ most + 1; try simp only [List.length_append, List.length_cons, List.length_nil]
              omega, he⟩, by show m < m + 1; omega, ?_⟩
            refine (Le.cut 2 q.length).trans ?_
            simp only [i_cut_cons, i_cut_nil, Nat.reduceEqDiff, if_true, if_false, reduceCtorEq, takeCs, ↓reduceIte]
            refine Le.tl (Ls := [[(0, .ptr 0 0 0)]]) [(1, 30)] (by simp -dsimp -implicitDefEqProofs (maxSteps := 1000000) only [go_sem, ↓reduceIte, Nat.reduceAdd, Nat.reduceSub, Nat.reduceMul, Nat.reduceLT, Nat.reduceLeDiff, Nat.reduceEqDiff, Nat.reduceBEq, Nat.reduceBNe, Int.reduceToNat, Int.reduceLT, Int.reduceLE, Int.reduceNeg, reduceCtorEq, Int.reduceEq, Int.reduceNe]) ?_ (by simp) (by simp [sg]) ⟨by simp -dsimp -implicitDefEqProofs (maxSteps := 1000000) only [go_sem, ↓reduceIte, Nat.reduceAdd, Nat.reduceSub, Nat.reduceMul, Nat.reduceLT, Nat.reduceLeDiff, Nat.reduceEqDiff, Nat.reduceBEq, Nat.reduceBNe, Int.reduceToNat, Int.reduceLT, Int.reduceLE, Int.reduceNeg, reduceCtorEq, Int.reduceEq, Int.reduceNe], trivial⟩
            simp -dsimp -implicitDefEqProofs (maxSteps := 1000000) only [go_sem, ↓reduceIte, Nat.reduceAdd, Nat.reduceSub, Nat.reduceMul, Nat.reduceLT, Nat.reduceLeDiff, Nat.reduceEqDiff, Nat.reduceBEq, Nat.reduceBNe, Int.reduceToNat, Int.reduceLT, Int.reduceLE, Int.reduceNeg, reduceCtorEq, Int.reduceEq, Int.reduceNe, takeCs, List.length_append, List.reverse_cons]
            exact ⟨renL_F (by simp -dsimp -implicitDefEqProofs (maxSteps := 1000000) only [go_sem, ↓reduceIte, Nat.reduceAdd, Nat.reduceSub, Nat.reduceMul, Nat.reduceLT, Nat.reduceLeDiff, Nat.reduceEqDiff, Nat.reduceBEq, Nat.reduceBNe, Int.reduceToNat, Int.reduceLT, Int.reduceLE, Int.reduceNeg, reduceCtorEq, Int.reduceEq, Int.reduceNe]; try exact ⟨trivial, rfl⟩), renL_cl (by simp [Ss]) (clSs _), renL_cl (by simp [Cs]) (clCs _)⟩
        | some x =>
          rw [hx] at he
          simp only at he
          have e3 : wr ((s : Int) + 1) = ((s + 1 : Nat) : Int) := by rw [wr_in] <;> omega
          have hdl : d.length ≤ 1099511627775 := by omega
          simp -dsimp -implicitDefEqProofs (maxSteps := 1000000) only [go_sem, ↓reduceIte, Nat.reduceAdd, Nat.reduceSub, Nat.reduceMul, Nat.reduceLT, Nat.reduceLeDiff, Nat.reduceEqDiff, Nat.reduceBEq, Nat.reduceBNe, Int.reduceToNat, Int.reduceLT, Int.reduceLE, Int.reduceNeg, reduceCtorEq, Int.reduceEq, Int.reduceNe, Option.getD_some, e3]
          refine ⟨by kernel_rfl, ?_⟩
          refine ⟨fun h3 => ?_, fun h3 => ?_⟩
          · have h4 : s = 200000 := by omega
            simp only [if_pos h4] at he
            rw [he]
            refine FinM.mk [] [(0, .ptr 0 0 0)] (by simp -dsimp -implicitDefEqProofs (maxSteps := 1000000) only [go_sem, ↓reduceIte, Nat.reduceAdd, Nat.reduceSub, Nat.reduceMul, Nat.reduceLT, Nat.reduceLeDiff, Nat.reduceEqDiff, Nat.reduceBEq, Nat.reduceBNe, Int.reduceToNat, Int.reduceLT, Int.reduceLE, Int.reduceNeg, reduceCtorEq, Int.reduceEq, Int.reduceNe]) ?_ (by simp) (by simp [sg]) (by simp -dsimp -implicitDefEqProofs (maxSteps := 1000000) only [go_sem, ↓reduceIte, Nat.reduceAdd, Nat.reduceSub, Nat.reduceMul, Nat.reduceLT, Nat.reduceLeDiff, Nat.reduceEqDiff, Nat.reduceBEq, Nat.reduceBNe, Int.reduceToNat, Int.reduceLT, Int.reduceLE, Int.reduceNeg, reduceCtorEq, Int.reduceEq, Int.reduceNe]) ?_
            · simp -dsimp -implicitDefEqProofs (maxSteps := 1000000) only [go_sem, ↓reduceIte, Nat.reduceAdd, Nat.reduceSub, Nat.reduceMul, Nat.reduceLT, Nat.reduceLeDiff, Nat.reduceEqDiff, Nat.reduceBEq, Nat.reduceBNe, Int.reduceToNat, Int.reduceLT, Int.reduceLE, Int.reduceNeg, reduceCtorEq, Int.reduceEq, Int.reduceNe]
              exact ⟨renL_F (by simp -dsimp -implicitDefEqProofs (maxSteps := 1000000) only [go_sem, ↓reduceIte, Nat.reduceAdd, Nat.reduceSub, Nat.reduceMul, Nat.reduceLT, Nat.reduceLeDiff, Nat.reduceEqDiff, Nat.reduceBEq, Nat.reduceBNe, Int.reduceToNat, Int.reduceLT, Int.reduceLE, Int.reduceNeg, reduceCtorEq, Int.reduceEq, Int.reduceNe]; try exact ⟨trivial, rfl⟩), renL_cl rfl (clSs _), renL_cl rfl (clCs _)⟩
            · intro n hn
              simp only [List.mem_singleton] at hn
              subst hn
              exact ⟨0, _, _, rfl, rfl, rfl, rfl, rfl, by simp, by simp⟩
          · have h4 : ¬ s = 200000 := by omega
            simp only [if_neg h4] at he
            refine ⟨fun o0 => ?_, fun o0 => ⟨fun o1 => ?_, fun o1 => ⟨fun o2 => ?_, fun o2 => ⟨fun o3 => ?_, fun o3 => ?_⟩⟩⟩⟩
            · simp only [if_pos o0] at he
              refine AtCode.drawB 13 [([], [1]), ([], []), ([1], []), ([1, 2], []), ([1, 2, 3], []), ([], []), ([5], []), ([5, 6], []), ([5, 6, 7], []), ([], []), ([9], []), ([5, 6, 7, 8, 9, 10], []), ([5, 6, 7, 8, 9, 10, 11], []), ([1, 2, 3, 4, 5, 6, 7, 8, 9, 10, 11, 12], []), ([0, 1, 2, 3, 4, 5, 6, 7, 8, 9, 10, 11, 12, 13], []), ([0, 1, 2, 3, 4, 5, 6, 7, 8, 9, 10, 11, 12, 13, 14], []), ([0, 1, 2, 3, 4, 5, 6, 7, 8, 9, 10, 11, 12, 13, 14, 15], [])] [false, true, true, true] (by kernel_rfl) ?_
              simp -dsimp -implicitDefEqProofs (maxSteps := 1000000) only [go_sem, ↓reduceIte, Nat.reduceAdd, Nat.reduceSub, Nat.reduceMul, Nat.reduceLT, Nat.reduceLeDiff, Nat.reduceEqDiff, Nat.reduceBEq, Nat.reduceBNe, Int.reduceToNat, Int.reduceLT, Int.reduceLE, Int.reduceNeg, reduceCtorEq, Int.reduceEq, Int.reduceNe, List.length_map, Int.natCast_nonneg, Int.toNat_natCast, List.length_append, List.length_reverse, List.reverse_cons, takeSs, Nat.zero_add, Nat.le_refl, hdl]
              refine ⟨by kernel_rfl, AtCode.drawB 11 [([], []), ([], [0]), ([], []), ([], []), ([3], []), ([3, 4], []), ([3, 4, 5], []), ([], [0]), ([3, 4, 5, 6, 7], [0]), ([0, 2, 3, 4, 5, 6], []), ([0, 2, 3, 4, 5, 6, 9], []), ([0, 2, 3, 4, 5, 6, 9, 10], []), ([0, 1, 2, 3, 4, 5, 6, 7, 8, 9, 10, 11], []), ([0, 1, 2, 3, 4, 5, 6, 7, 8, 9, 10, 11, 12], []), ([0, 1, 2, 3, 4, 5, 6, 7, 8, 9, 10, 11, 12, 13], [])] [false, true, true, true] (by kernel_rfl) ?_⟩
              simp -dsimp -implicitDefEqProofs (maxSteps := 1000000) only [go_sem, ↓reduceIte, Nat.reduceAdd, Nat.reduceSub, Nat.reduceMul, Nat.reduceLT, Nat.reduceLeDiff, Nat.reduceEqDiff, Nat.reduceBEq, Nat.reduceBNe, Int.reduceToNat, Int.reduceLT, Int.reduceLE, Int.reduceNeg, reduceCtorEq, Int.reduceEq, Int.reduceNe, List.length_map, Int.natCast_nonneg, Int.toNat_natCast, List.length_append, List.length_reverse, List.reverse_cons, snocSs]
              refine ⟨by omega, by kernel_rfl, ?_⟩
              have e4 : wr (((d.length + 1 : Nat) : Int) + ((q.length : Nat) : Int)) = ((d.length + 1 + q.length : Nat) : Int) := by rw [wr_in] <;> omega
              refine AtCode.draw 13 [([], []), ([0], []), ([0, 1], []), ([0, 1, 2], []), ([0, 1, 2, 3], []), ([], []), ([5], []), ([5, 6], []), ([5, 6, 7], []), ([5, 6, 7, 8], []), ([0, 1, 2, 3, 4, 5, 6, 7, 8, 9], []), ([], []), ([0, 1, 2, 3, 4, 5, 6, 7, 8, 9, 10, 11], [])] (by kernel_rfl) ?_
              simp -dsimp -implicitDefEqProofs (maxSteps := 1000000) only [go_sem, ↓reduceIte, Nat.reduceAdd, Nat.reduceSub, Nat.reduceMul, Nat.reduceLT, Nat.reduceLeDiff, Nat.reduceEqDiff, Nat.reduceBEq, Nat.reduceBNe, Int.reduceToNat, Int.reduceLT, Int.reduceLE, Int.reduceNeg, reduceCtorEq, Int.reduceEq, Int.reduceNe, List.length_map, List.length_append, List.length_reverse, Nat.sub_zero, Nat.zero_add, e4, takeCs]
              refine ⟨fun h5 => ?_, fun h5 => ?_⟩
              · rw [if_pos (by first | omega | (simp only [List.length_append, List.length_cons, List.length_nil]; omega))] at he
                rw [he]
                refine FinM.le (Le.cut 2 q.length) ?_
                simp only [i_cut_cons, i_cut_nil, Nat.reduceEqDiff, if_true, if_false, reduceCtorEq, takeCs, ↓reduceIte]
                refine FinM.mk [(1, 30)] [(0, .ptr 0 0 0)] (by simp -dsimp -implicitDefEqProofs (maxSteps := 1000000) only [go_sem, ↓reduceIte, Nat.reduceAdd, Nat.reduceSub, Nat.reduceMul, Nat.reduceLT, Nat.reduceLeDiff, Nat.reduceEqDiff, Nat.reduceBEq, Nat.reduceBNe, Int.reduceToNat, Int.reduceLT, Int.reduceLE, Int.reduceNeg, reduceCtorEq, Int.reduceEq, Int.reduceNe]) ?_ (by simp) (by simp [sg]) (by simp -dsimp -implicitDefEqProofs (maxSteps := 1000000) only [go_sem, ↓reduceIte, Nat.reduceAdd, Nat.reduceSub, Nat.reduceMul, Nat.reduceLT, Nat.reduceLeDiff, Nat.reduceEqDiff, Nat.reduceBEq, Nat.reduceBNe, Int.reduceToNat, Int.reduceLT, Int.reduceLE, Int.reduceNeg, reduceCtorEq, Int.reduceEq, Int.reduceNe]) ?_
                · simp -dsimp -implicitDefEqProofs (maxSteps := 1000000) only [go_sem, ↓reduceIte, Nat.reduceAdd, Nat.reduceSub, Nat.reduceMul, Nat.reduceLT, Nat.reduceLeDiff, Nat.reduceEqDiff, Nat.reduceBEq, Nat.reduceBNe, Int.reduceToNat, Int.reduceLT, Int.reduceLE, Int.reduceNeg, reduceCtorEq, Int.reduceEq, Int.reduceNe, takeCs, List.length_append, List.reverse_cons]
                  exact ⟨renL_F (by simp -dsimp -implicitDefEqProofs (maxSteps := 1000000) only [go_sem, ↓reduceIte, Nat.reduceAdd, Nat.reduceSub, Nat.reduceMul, Nat.reduceLT, Nat.reduceLeDiff, Nat.reduceEqDiff, Nat.reduceBEq, Nat.reduceBNe, Int.reduceToNat, Int.reduceLT, Int.reduceLE, Int.reduceNeg, reduceCtorEq, Int.reduceEq, Int.reduceNe]; try exact ⟨trivial, rfl⟩), renL_cl (by simp [Ss]) (clSs _), renL_cl (by simp [Cs]) (clCs _)⟩
                · intro n hn
                  simp only [List.mem_singleton] at hn
                  subst hn
                  exact ⟨0, _, _, rfl, rfl, rfl, rfl, rfl, by simp, by simp⟩
              · rw [if_neg (by first | omega | (simp only [List.length_append, List.length_cons, List.length_nil]; omega))] at he
                refine ⟨⟨(m, ⟨d ++ [(p, x.v)], c, q, s + 1⟩), by show s + 1 ≤ 200000; omega, by
                  show 2 * (200000 - (s + 1)) + (q).length < m; try simp only [List.length_cons]
                  omega, by
                  show (d ++ [(p, x.v)]).length + (q).length ≤ most + 1; try simp only [List.length_append, List.length_cons, List.length_nil]
                  omega, he⟩, by show m < m + 1; omega, ?_⟩
                refine (Le.cut 2 q.length).trans ?_
                simp only [i_cut_cons, i_cut_nil, Nat.reduceEqDiff, if_true, if_false, reduceCtorEq, takeCs, ↓reduceIte]
                refine Le.tl (Ls := [[(0, .ptr 0 0 0)]]) [(1, 30)] (by simp -dsimp -implicitDefEqProofs (maxSteps := 1000000) only [go_sem, ↓reduceIte, Nat.reduceAdd, Nat.reduceSub, Nat.reduceMul, Nat.reduceLT, Nat.reduceLeDiff, Nat.reduceEqDiff, Nat.reduceBEq, Nat.reduceBNe, Int.reduceToNat, Int.reduceLT, Int.reduceLE, Int.reduceNeg, reduceCtorEq, Int.reduceEq, Int.reduceNe]) ?_ (by simp) (by simp [sg]) ⟨by simp -dsimp -implicitDefEqProofs (maxSteps := 1000000) only [go_sem, ↓reduceIte, Nat.reduceAdd, Nat.reduceSub, Nat.reduceMul, Nat.reduceLT, Nat.reduceLeDiff, Nat.reduceEqDiff, Nat.reduceBEq, Nat.reduceBNe, Int.reduceToNat, Int.reduceLT, Int.reduceLE, Int.reduceNeg, reduceCtorEq, Int.reduceEq, Int.reduceNe], trivial⟩
                simp -dsimp -implicitDefEqProofs (maxSteps := 1000000) only [go_sem, ↓reduceIte, Nat.reduceAdd, Nat.reduceSub, Nat.reduceMul, Nat.reduceLT, Nat.reduceLeDiff, Nat.reduceEqDiff, Nat.reduceBEq, Nat.reduceBNe, Int.reduceToNat, Int.reduceLT, Int.reduceLE, Int.reduceNeg, reduceCtorEq, Int.reduceEq, Int.reduceNe, takeCs, List.length_append, List.reverse_cons]
                exact ⟨renL_F (by simp -dsimp -implicitDefEqProofs (maxSteps := 1000000) only [go_sem, ↓reduceIte, Nat.reduceAdd, Nat.reduceSub, Nat.reduceMul, Nat.reduceLT, Nat.reduceLeDiff, Nat.reduceEqDiff, Nat.reduceBEq, Nat.reduceBNe, Int.reduceToNat, Int.reduceLT, Int.reduceLE, Int.reduceNeg, reduceCtorEq, Int.reduceEq, Int.reduceNe]; try exact ⟨trivial, rfl⟩), renL_cl (by simp [Ss]) (clSs _), renL_cl (by simp [Cs]) (clCs _)⟩
            · simp only [if_neg o0, if_pos o1] at he
              refine AtCode.drawB 12 [([], []), ([], [0]), ([], []), ([2], []), ([], []), ([4], []), ([4, 5], []), ([4, 5, 6], []), ([], [0]), ([4, 5, 6, 7, 8], [0]), ([0, 2, 3, 4, 5, 6, 7], []), ([0, 2, 3, 4, 5, 6, 7, 10], []), ([0, 2, 3, 4, 5, 6, 7, 10, 11], []), ([0, 1, 2, 3, 4, 5, 6, 7, 8, 9, 10, 11, 12], []), ([0, 1, 2, 3, 4, 5, 6, 7, 8, 9, 10, 11, 12, 13], []), ([0, 1, 2, 3, 4, 5, 6, 7, 8, 9, 10, 11, 12, 13, 14], [])] [false, true, true, true] (by kernel_rfl) ?_
              simp -dsimp -implicitDefEqProofs (maxSteps := 1000000) only [go_sem, ↓reduceIte, Nat.reduceAdd, Nat.reduceSub, Nat.reduceMul, Nat.reduceLT, Nat.reduceLeDiff, Nat.reduceEqDiff, Nat.reduceBEq, Nat.reduceBNe, Int.reduceToNat, Int.reduceLT, Int.reduceLE, Int.reduceNeg, reduceCtorEq, Int.reduceEq, Int.reduceNe, List.length_map, Int.natCast_nonneg, Int.toNat_natCast, List.length_append, List.length_reverse, List.reverse_cons, Nat.zero_add, Nat.le_refl]
              refine ⟨by omega, by kernel_rfl, ?_⟩
              have e4 : wr (((d.length : Nat) : Int) + ((q.length : Nat) : Int)) = ((d.length + q.length : Nat) : Int) := by rw [wr_in] <;> omega
              refine AtCode.draw 13 [([], []), ([0], []), ([0, 1], []), ([0, 1, 2], []), ([0, 1, 2, 3], []), ([], []), ([5], []), ([5, 6], []), ([5, 6, 7], []), ([5, 6, 7, 8], []), ([0, 1, 2, 3, 4, 5, 6, 7, 8, 9], []), ([], []), ([0, 1, 2, 3, 4, 5, 6, 7, 8, 9, 10, 11], [])] (by kernel_rfl) ?_
              simp -dsimp -implicitDefEqProofs (maxSteps := 1000000) only [go_sem, ↓reduceIte, Nat.reduceAdd, Nat.reduceSub, Nat.reduceMul, Nat.reduceLT, Nat.reduceLeDiff, Nat.reduceEqDiff, Nat.reduceBEq, Nat.reduceBNe, Int.reduceToNat, Int.reduceLT, Int.reduceLE, Int.reduceNeg, reduceCtorEq, Int.reduceEq, Int.reduceNe, List.length_map, List.length_append, List.length_reverse, Nat.sub_zero, Nat.zero_add, e4, takeCs]
              refine ⟨fun h5 => ?_, fun h5 => ?_⟩
              · rw [if_pos (by first | omega | (simp only [List.length_append, List.length_cons, List.length_nil]; omega))] at he
                rw [he]
                refine FinM.le (Le.cut 2 q.length) ?_
                simp only [i_cut_cons, i_cut_nil, Nat.reduceEqDiff, if_true, if_false, reduceCtorEq, takeCs, ↓reduceIte]
                refine FinM.mk [] [(0, .ptr 0 0 0)] (by simp -dsimp -implicitDefEqProofs (maxSteps := 1000000) only [go_sem, ↓reduceIte, Nat.reduceAdd, Nat.reduceSub, Nat.reduceMul, Nat.reduceLT, Nat.reduceLeDiff, Nat.reduceEqDiff, Nat.reduceBEq, Nat.reduceBNe, Int.reduceToNat, Int.reduceLT, Int.reduceLE, Int.reduceNeg, reduceCtorEq, Int.reduceEq, Int.reduceNe]) ?_ (by simp) (by simp [sg]) (by simp -dsimp -implicitDefEqProofs (maxSteps := 1000000) only [go_sem, ↓reduceIte, Nat.reduceAdd, Nat.reduceSub, Nat.reduceMul, Nat.reduceLT, Nat.reduceLeDiff, Nat.reduceEqDiff, Nat.reduceBEq, Nat.reduceBNe, Int.reduceToNat, Int.reduceLT, Int.reduceLE, Int.reduceNeg, reduceCtorEq, Int.reduceEq, Int.reduceNe]) ?_
                · simp -dsimp -implicitDefEqProofs (maxSteps := 1000000) only [go_sem, ↓reduceIte, Nat.reduceAdd, Nat.reduceSub, Nat.reduceMul, Nat.reduceLT, Nat.reduceLeDiff, Nat.reduceEqDiff, Nat.reduceBEq, Nat.reduceBNe, Int.reduceToNat, Int.reduceLT, Int.reduceLE, Int.reduceNeg, reduceCtorEq, Int.reduceEq, Int.reduceNe, takeCs, List.length_append, List.reverse_cons]
                  exact ⟨renL_F (by simp -dsimp -implicitDefEqProofs (maxSteps := 1000000) only [go_sem, ↓reduceIte, Nat.reduceAdd, Nat.reduceSub, Nat.reduceMul, Nat.reduceLT, Nat.reduceLeDiff, Nat.reduceEqDiff, Nat.reduceBEq, Nat.reduceBNe, Int.reduceToNat, Int.reduceLT, Int.reduceLE, Int.reduceNeg, reduceCtorEq, Int.reduceEq, Int.reduceNe]; try exact ⟨trivial, rfl⟩), renL_cl (by simp [Ss]) (clSs _), renL_cl (by simp [Cs]) (clCs _)⟩
                · intro n hn
                  simp only [List.mem_singleton] at hn
                  subst hn
                  exact ⟨0, _, _, rfl, rfl, rfl, rfl, rfl, by simp, by simp⟩
              · rw [if_neg (by first | omega | (simp only [List.length_append, List.length_cons, List.length_nil]; omega))] at he
                refine ⟨⟨(m, ⟨d, x.v, q, s + 1⟩), by show s + 1 ≤ 200000; omega, by
                  show 2 * (200000 - (s + 1)) + (q).length < m; try simp only [List.length_cons]
                  omega, by
                  show (d).length + (q).length ≤ most + 1; try simp only [List.length_append, List.length_cons, List.length_nil]
                  omega, he⟩, by show m < m + 1; omega, ?_⟩
                refine (Le.cut 2 q.length).trans ?_
                simp only [i_cut_cons, i_cut_nil, Nat.reduceEqDiff, if_true, if_false, reduceCtorEq, takeCs, ↓reduceIte]
                refine Le.tl (Ls := [[(0, .ptr 0 0 0)]]) [] (by simp -dsimp -implicitDefEqProofs (maxSteps := 1000000) only [go_sem, ↓reduceIte, Nat.reduceAdd, Nat.reduceSub, Nat.reduceMul, Nat.reduceLT, Nat.reduceLeDiff, Nat.reduceEqDiff, Nat.reduceBEq, Nat.reduceBNe, Int.reduceToNat, Int.reduceLT, Int.reduceLE, Int.reduceNeg, reduceCtorEq, Int.reduceEq, Int.reduceNe]) ?_ (by simp) (by simp [sg]) ⟨by simp -dsimp -implicitDefEqProofs (maxSteps := 1000000) only [go_sem, ↓reduceIte, Nat.reduceAdd, Nat.reduceSub, Nat.reduceMul, Nat.reduceLT, Nat.reduceLeDiff, Nat.reduceEqDiff, Nat.reduceBEq, Nat.reduceBNe, Int.reduceToNat, Int.reduceLT, Int.reduceLE, Int.reduceNeg, reduceCtorEq, Int.reduceEq, Int.reduceNe], trivial⟩
                simp -dsimp -implicitDefEqProofs (maxSteps := 1000000) only [go_sem, ↓reduceIte, Nat.reduceAdd, Nat.reduceSub, Nat.reduceMul, Nat.reduceLT, Nat.reduceLeDiff, Nat.reduceEqDiff, Nat.reduceBEq, Nat.reduceBNe, Int.reduceToNat, Int.reduceLT, Int.reduceLE, Int.reduceNeg, reduceCtorEq, Int.reduceEq, Int.reduceNe, takeCs, List.length_append, List.reverse_cons]
                exact ⟨renL_F (by simp -dsimp -implicitDefEqProofs (maxSteps := 1000000) only [go_sem, ↓reduceIte, Nat.reduceAdd, Nat.reduceSub, Nat.reduceMul, Nat.reduceLT, Nat.reduceLeDiff, Nat.reduceEqDiff, Nat.reduceBEq, Nat.reduceBNe, Int.reduceToNat, Int.reduceLT, Int.reduceLE, Int.reduceNeg, reduceCtorEq, Int.reduceEq, Int.reduceNe]; try exact ⟨trivial, rfl⟩), renL_cl (by simp [Ss]) (clSs _), renL_cl (by simp [Cs]) (clCs _)⟩
            · simp only [if_neg o0, if_neg o1, if_pos o2] at he
              refine AtCode.draw 8 [([], []), ([0], []), ([0, 1], []), ([0, 1, 2], []), ([], []), ([], []), ([5], []), ([0, 1, 2, 3, 4, 5, 6], []), ([0, 1, 2, 3, 4, 5, 6, 7], [])] (by kernel_rfl) ?_
              simp -dsimp -implicitDefEqProofs (maxSteps := 1000000) only [go_sem, ↓reduceIte, Nat.reduceAdd, Nat.reduceSub, Nat.reduceMul, Nat.reduceLT, Nat.reduceLeDiff, Nat.reduceEqDiff, Nat.reduceBEq, Nat.reduceBNe, Int.reduceToNat, Int.reduceLT, Int.reduceLE, Int.reduceNeg, reduceCtorEq, Int.reduceEq, Int.reduceNe, List.length_map, Int.natCast_nonneg, Int.toNat_natCast, List.length_append, List.length_reverse, List.reverse_cons, Nat.zero_add, Nat.le_refl, hq, getLast, setLast]
              have e4 : wr (((d.length : Nat) : Int) + ((q.length + 1 : Nat) : Int)) = ((d.length + q.length + 1 : Nat) : Int) := by rw [wr_in] <;> omega
              refine AtCode.draw 13 [([], []), ([0], []), ([0, 1], []), ([0, 1, 2], []), ([0, 1, 2, 3], []), ([], []), ([5], []), ([5, 6], []), ([5, 6, 7], []), ([5, 6, 7, 8], []), ([0, 1, 2, 3, 4, 5, 6, 7, 8, 9], []), ([], []), ([0, 1, 2, 3, 4, 5, 6, 7, 8, 9, 10, 11], [])] (by kernel_rfl) ?_
              simp -dsimp -implicitDefEqProofs (maxSteps := 1000000) only [go_sem, ↓reduceIte, Nat.reduceAdd, Nat.reduceSub, Nat.reduceMul, Nat.reduceLT, Nat.reduceLeDiff, Nat.reduceEqDiff, Nat.reduceBEq, Nat.reduceBNe, Int.reduceToNat, Int.reduceLT, Int.reduceLE, Int.reduceNeg, reduceCtorEq, Int.reduceEq, Int.reduceNe, List.length_map, List.length_append, List.length_reverse, Nat.sub_zero, Nat.zero_add, e4, takeCs]
              refine ⟨fun h5 => ?_, fun h5 => ?_⟩
              · rw [if_pos (by first | omega | (simp only [List.length_append, List.length_cons, List.length_nil]; omega))] at he
                rw [he]
                refine FinM.le (Le.cut 99 0) ?_
                simp only [i_cut_cons, i_cut_nil, Nat.reduceEqDiff, if_true, if_false, reduceCtorEq, takeCs, ↓reduceIte]
                refine FinM.mk [] [(0, .ptr 0 0 0)] (by simp -dsimp -implicitDefEqProofs (maxSteps := 1000000) only [go_sem, ↓reduceIte, Nat.reduceAdd, Nat.reduceSub, Nat.reduceMul, Nat.reduceLT, Nat.reduceLeDiff, Nat.reduceEqDiff, Nat.reduceBEq, Nat.reduceBNe, Int.reduceToNat, Int.reduceLT, Int.reduceLE, Int.reduceNeg, reduceCtorEq, Int.reduceEq, Int.reduceNe]) ?_ (by simp) (by simp [sg]) (by simp -dsimp -implicitDefEqProofs (maxSteps := 1000000) only [go_sem, ↓reduceIte, Nat.reduceAdd, Nat.reduceSub, Nat.reduceMul, Nat.reduceLT, Nat.reduceLeDiff, Nat.reduceEqDiff, Nat.reduceBEq, Nat.reduceBNe, Int.reduceToNat, Int.reduceLT, Int.reduceLE, Int.reduceNeg, reduceCtorEq, Int.reduceEq, Int.reduceNe]) ?_
                · simp -dsimp -implicitDefEqProofs (maxSteps := 1000000) only [go_sem, ↓reduceIte, Nat.reduceAdd, Nat.reduceSub, Nat.reduceMul, Nat.reduceLT, Nat.reduceLeDiff, Nat.reduceEqDiff, Nat.reduceBEq, Nat.reduceBNe, Int.reduceToNat, Int.reduceLT, Int.reduceLE, Int.reduceNeg, reduceCtorEq, Int.reduceEq, Int.reduceNe, takeCs, List.length_append, List.reverse_cons]
                  exact ⟨renL_F (by simp -dsimp -implicitDefEqProofs (maxSteps := 1000000) only [go_sem, ↓reduceIte, Nat.reduceAdd, Nat.reduceSub, Nat.reduceMul, Nat.reduceLT, Nat.reduceLeDiff, Nat.reduceEqDiff, Nat.reduceBEq, Nat.reduceBNe, Int.reduceToNat, Int.reduceLT, Int.reduceLE, Int.reduceNeg, reduceCtorEq, Int.reduceEq, Int.reduceNe]; try exact ⟨trivial, rfl⟩), renL_cl (by simp [Ss]) (clSs _), renL_cl (by simp [Cs]) (clCs _)⟩
                · intro n hn
                  simp only [List.mem_singleton] at hn
                  subst hn
                  exact ⟨0, _, _, rfl, rfl, rfl, rfl, rfl, by simp, by simp⟩
              · rw [if_neg (by first | omega | (simp only [List.length_append, List.length_cons, List.length_nil]; omega))] at he
                refine ⟨⟨(m, ⟨d, p, x.v :: q, s + 1⟩), by show s + 1 ≤ 200000; omega, by
                  show 2 * (200000 - (s + 1)) + (x.v :: q).length < m; try simp only [List.length_cons]
                  omega, by
                  show (d).length + (x.v :: q).length ≤ most + 1; try simp only [List.length_append, List.length_cons, List.length_nil]
                  omega, he⟩, by show m < m + 1; omega, ?_⟩
                refine (Le.cut 99 0).trans ?_
                simp only [i_cut_cons, i_cut_nil, Nat.reduceEqDiff, if_true, if_false, reduceCtorEq, takeCs, ↓reduceIte]
                refine Le.tl (Ls := [[(0, .ptr 0 0 0)]]) [] (by simp -dsimp -implicitDefEqProofs (maxSteps := 1000000) only [go_sem, ↓reduceIte, Nat.reduceAdd, Nat.reduceSub, Nat.reduceMul, Nat.reduceLT, Nat.reduceLeDiff, Nat.reduceEqDiff, Nat.reduceBEq, Nat.reduceBNe, Int.reduceToNat, Int.reduceLT, Int.reduceLE, Int.reduceNeg, reduceCtorEq, Int.reduceEq, Int.reduceNe]) ?_ (by simp) (by simp [sg]) ⟨by simp -dsimp -implicitDefEqProofs (maxSteps := 1000000) only [go_sem, ↓reduceIte, Nat.reduceAdd, Nat.reduceSub, Nat.reduceMul, Nat.reduceLT, Nat.reduceLeDiff, Nat.reduceEqDiff, Nat.reduceBEq, Nat.reduceBNe, Int.reduceToNat, Int.reduceLT, Int.reduceLE, Int.reduceNeg, reduceCtorEq, Int.reduceEq, Int.reduceNe], trivial⟩
                simp -dsimp -implicitDefEqProofs (maxSteps := 1000000) only [go_sem, ↓reduceIte, Nat.reduceAdd, Nat.reduceSub, Nat.reduceMul, Nat.reduceLT, Nat.reduceLeDiff, Nat.reduceEqDiff, Nat.reduceBEq, Nat.reduceBNe, Int.reduceToNat, Int.reduceLT, Int.reduceLE, Int.reduceNeg, reduceCtorEq, Int.reduceEq, Int.reduceNe, takeCs, List.length_append, List.reverse_cons]
                exact ⟨renL_F (by simp -dsimp -implicitDefEqProofs (maxSteps := 1000000) only [go_sem, ↓reduceIte, Nat.reduceAdd, Nat.reduceSub, Nat.reduceMul, Nat.reduceLT, Nat.reduceLeDiff, Nat.reduceEqDiff, Nat.reduceBEq, Nat.reduceBNe, Int.reduceToNat, Int.reduceLT, Int.reduceLE, Int.reduceNeg, reduceCtorEq, Int.reduceEq, Int.reduceNe]; try exact ⟨trivial, rfl⟩), renL_cl (by simp [Ss]) (clSs _), renL_cl (by simp [Cs]) (clCs _)⟩
            · simp only [if_neg o0, if_neg o1, if_neg o2, if_pos o3] at he
              have e4 : wr (((d.length : Nat) : Int) + ((q.length + 1 : Nat) : Int)) = ((d.length + q.length + 1 : Nat) : Int) := by rw [wr_in] <;> omega
              refine AtCode.draw 13 [([], []), ([0], []), ([0, 1], []), ([0, 1, 2], []), ([0, 1, 2, 3], []), ([], []), ([5], []), ([5, 6], []), ([5, 6, 7], []), ([5, 6, 7, 8], []), ([0, 1, 2, 3, 4, 5, 6, 7, 8, 9], []), ([], []), ([0, 1, 2, 3, 4, 5, 6, 7, 8, 9, 10, 11], [])] (by kernel_rfl) ?_
              simp -dsimp -implicitDefEqProofs (maxSteps := 1000000) only [go_sem, ↓reduceIte, Nat.reduceAdd, Nat.reduceSub, Nat.reduceMul, Nat.reduceLT, Nat.reduceLeDiff, Nat.reduceEqDiff, Nat.reduceBEq, Nat.reduceBNe, Int.reduceToNat, Int.reduceLT, Int.reduceLE, Int.reduceNeg, reduceCtorEq, Int.reduceEq, Int.reduceNe, List.length_map, List.length_append, List.length_reverse, Nat.sub_zero, Nat.zero_add, e4, takeCs]
              refine ⟨fun h5 => ?_, fun h5 => ?_⟩
              · rw [if_pos (by first | omega | (simp only [List.length_append, List.length_cons, List.length_nil]; omega))] at he
                rw [he]
                refine FinM.le (Le.cut 99 0) ?_
                simp only [i_cut_cons, i_cut_nil, Nat.reduceEqDiff, if_true, if_false, reduceCtorEq, takeCs, ↓reduceIte]
                refine FinM.mk [] [(0, .ptr 0 0 0)] (by simp -dsimp -implicitDefEqProofs (maxSteps := 1000000) only [go_sem, ↓reduceIte, Nat.reduceAdd, Nat.reduceSub, Nat.reduceMul, Nat.reduceLT, Nat.reduceLeDiff, Nat.reduceEqDiff, Nat.reduceBEq, Nat.reduceBNe, Int.reduceToNat, Int.reduceLT, Int.reduceLE, Int.reduceNeg, reduceCtorEq, Int.reduceEq, Int.reduceNe]) ?_ (by simp) (by simp [sg]) (by simp -dsimp -implicitDefEqProofs (maxSteps := 1000000) only [go_sem, ↓reduceIte, Nat.reduceAdd, Nat.reduceSub, Nat.reduceMul, Nat.reduceLT, Nat.reduceLeDiff, Nat.reduceEqDiff, Nat.reduceBEq, Nat.reduceBNe, Int.reduceToNat, Int.reduceLT, Int.reduceLE, Int.reduceNeg, reduceCtorEq, Int.reduceEq, Int.reduceNe]) ?_
                · simp -dsimp -implicitDefEqProofs (maxSteps := 1000000) only [go_sem, ↓reduceIte, Nat.reduceAdd, Nat.reduceSub, Nat.reduceMul, Nat.reduceLT, Nat.reduceLeDiff, Nat.reduceEqDiff, Nat.reduceBEq, Nat.reduceBNe, Int.reduceToNat, Int.reduceLT, Int.reduceLE, Int.reduceNeg, reduceCtorEq, Int.reduceEq, Int.reduceNe, takeCs, List.length_append, List.reverse_cons]
                  exact ⟨renL_F (by simp -dsimp -implicitDefEqProofs (maxSteps := 1000000) only [go_sem, ↓reduceIte, Nat.reduceAdd, Nat.reduceSub, Nat.reduceMul, Nat.reduceLT, Nat.reduceLeDiff, Nat.reduceEqDiff, Nat.reduceBEq, Nat.reduceBNe, Int.reduceToNat, Int.reduceLT, Int.reduceLE, Int.reduceNeg, reduceCtorEq, Int.reduceEq, Int.reduceNe]; try exact ⟨trivial, rfl⟩), renL_cl (by simp [Ss]) (clSs _), renL_cl (by simp [Cs]) (clCs _)⟩
                · intro n hn
                  simp only [List.mem_singleton] at hn
                  subst hn
                  exact ⟨0, _, _, rfl, rfl, rfl, rfl, rfl, by simp, by simp⟩
              · rw [if_neg (by first | omega | (simp only [List.length_append, List.length_cons, List.length_nil]; omega))] at he
                refine ⟨⟨(m, ⟨d, x.v, c :: q, s + 1⟩), by show s + 1 ≤ 200000; omega, by
                  show 2 * (200000 - (s + 1)) + (c :: q).length < m; try simp only [List.length_cons]
                  omega, by
                  show (d).length + (c :: q).length ≤ most + 1; try simp only [List.length_append, List.length_cons, List.length_nil]
                  omega, he⟩, by show m < m + 1; omega, ?_⟩
                refine (Le.cut 99 0).trans ?_
                simp only [i_cut_cons, i_cut_nil, Nat.reduceEqDiff, if_true, if_false, reduceCtorEq, takeCs, ↓reduceIte]
                refine Le.tl (Ls := [[(0, .ptr 0 0 0)]]) [] (by simp -dsimp -implicitDefEqProofs (maxSteps := 1000000) only [go_sem, ↓reduceIte, Nat.reduceAdd, Nat.reduceSub, Nat.reduceMul, Nat.reduceLT, Nat.reduceLeDiff, Nat.reduceEqDiff, Nat.reduceBEq, Nat.reduceBNe, Int.reduceToNat, Int.reduceLT, Int.reduceLE, Int.reduceNeg, reduceCtorEq, Int.reduceEq, Int.reduceNe]) ?_ (by simp) (by simp [sg]) ⟨by simp -dsimp -implicitDefEqProofs (maxSteps := 1000000) only [go_sem, ↓reduceIte, Nat.reduceAdd, Nat.reduceSub, Nat.reduceMul, Nat.reduceLT, Nat.reduceLeDiff, Nat.reduceEqDiff, Nat.reduceBEq, Nat.reduceBNe, Int.reduceToNat, Int.reduceLT, Int.reduceLE, Int.reduceNeg, reduceCtorEq, Int.reduceEq, Int.reduceNe], trivial⟩
                simp -dsimp -implicitDefEqProofs (maxSteps := 1000000) only [go_sem, ↓reduceIte, Nat.reduceAdd, Nat.reduceSub, Nat.reduceMul, Nat.reduceLT, Nat.reduceLeDiff, Nat.reduceEqDiff, Nat.reduceBEq, Nat.reduceBNe, Int.reduceToNat, Int.reduceLT, Int.reduceLE, Int.reduceNeg, reduceCtorEq, Int.reduceEq, Int.reduceNe, takeCs, List.length_append, List.reverse_cons]
                exact ⟨renL_F (by simp -dsimp -implicitDefEqProofs (maxSteps := 1000000) only [go_sem, ↓reduceIte, Nat.reduceAdd, Nat.reduceSub, Nat.reduceMul, Nat.reduceLT, Nat.reduceLeDiff, Nat.reduceEqDiff, Nat.reduceBEq, Nat.reduceBNe, Int.reduceToNat, Int.reduceLT, Int.reduceLE, Int.reduceNeg, reduceCtorEq, Int.reduceEq, Int.reduceNe]; try exact ⟨trivial, rfl⟩), renL_cl (by simp [Ss]) (clSs _), renL_cl (by simp [Cs]) (clCs _)⟩
            · simp only [if_neg o0, if_neg o1, if_neg o2, if_neg o3] at he
              have hql : q.length + 1 ≤ 1099511627775 := by omega
              refine AtCode.drawB 8 [([], [2]), ([], []), ([1], []), ([1, 2], []), ([1, 2, 3], []), ([], []), ([5], []), ([5, 6], []), ([1, 2, 3, 4, 5, 6, 7], []), ([0, 1, 2, 3, 4, 5, 6, 7, 8], []), ([0, 1, 2, 3, 4, 5, 6, 7, 8, 9], []), ([0, 1, 2, 3, 4, 5, 6, 7, 8, 9, 10], [])] [false, true, true, true] (by kernel_rfl) ?_
              simp -dsimp -implicitDefEqProofs (maxSteps := 1000000) only [go_sem, ↓reduceIte, Nat.reduceAdd, Nat.reduceSub, Nat.reduceMul, Nat.reduceLT, Nat.reduceLeDiff, Nat.reduceEqDiff, Nat.reduceBEq, Nat.reduceBNe, Int.reduceToNat, Int.reduceLT, Int.reduceLE, Int.reduceNeg, reduceCtorEq, Int.reduceEq, Int.reduceNe, List.length_map, Int.natCast_nonneg, Int.toNat_natCast, List.length_append, List.length_reverse, List.reverse_cons, Nat.zero_add, Nat.le_refl, takeCs2, hql, snocCs]
              refine ⟨by omega, by kernel_rfl, ?_⟩
              have e4 : wr (((d.length : Nat) : Int) + ((q.length + 1 + 1 : Nat) : Int)) = ((d.length + q.length + 1 + 1 : Nat) : Int) := by rw [wr_in] <;> omega
              refine AtCode.draw 13 [([], []), ([0], []), ([0, 1], []), ([0, 1, 2], []), ([0, 1, 2, 3], []), ([], []), ([5], []), ([5, 6], []), ([5, 6, 7], []), ([5, 6, 7, 8], []), ([0, 1, 2, 3, 4, 5, 6, 7, 8, 9], []), ([], []), ([0, 1, 2, 3, 4, 5, 6, 7, 8, 9, 10, 11], [])] (by kernel_rfl) ?_
              simp -dsimp -implicitDefEqProofs (maxSteps := 1000000) only [go_sem, ↓reduceIte, Nat.reduceAdd, Nat.reduceSub, Nat.reduceMul, Nat.reduceLT, Nat.reduceLeDiff, Nat.reduceEqDiff, Nat.reduceBEq, Nat.reduceBNe, Int.reduceToNat, Int.reduceLT, Int.reduceLE, Int.reduceNeg, reduceCtorEq, Int.reduceEq, Int.reduceNe, List.length_map, List.length_append, List.length_reverse, Nat.sub_zero, Nat.zero_add, e4, takeCs]
              refine ⟨fun h5 => ?_, fun h5 => ?_⟩
              · rw [if_pos (by first | omega | (simp only [List.length_append, List.length_cons, List.length_nil]; omega))] at he
                rw [he]
                refine FinM.le (Le.cut 99 0) ?_
                simp only [i_cut_cons, i_cut_nil, Nat.reduceEqDiff, if_true, if_false, reduceCtorEq, takeCs, ↓reduceIte]
                refine FinM.mk [(2, 25)] [(0, .ptr 0 0 0)] (by simp -dsimp -implicitDefEqProofs (maxSteps := 1000000) only [go_sem, ↓reduceIte, Nat.reduceAdd, Nat.reduceSub, Nat.reduceMul, Nat.reduceLT, Nat.reduceLeDiff, Nat.reduceEqDiff, Nat.reduceBEq, Nat.reduceBNe, Int.reduceToNat, Int.reduceLT, Int.reduceLE, Int.reduceNeg, reduceCtorEq, Int.reduceEq, Int.reduceNe]) ?_ (by simp) (by simp [sg]) (by simp -dsimp -implicitDefEqProofs (maxSteps := 1000000) only [go_sem, ↓reduceIte, Nat.reduceAdd, Nat.reduceSub, Nat.reduceMul, Nat.reduceLT, Nat.reduceLeDiff, Nat.reduceEqDiff, Nat.reduceBEq, Nat.reduceBNe, Int.reduceToNat, Int.reduceLT, Int.reduceLE, Int.reduceNeg, reduceCtorEq, Int.reduceEq, Int.reduceNe]) ?_
                · simp -dsimp -implicitDefEqProofs (maxSteps := 1000000) only [go_sem, ↓reduceIte, Nat.reduceAdd, Nat.reduceSub, Nat.reduceMul, Nat.reduceLT, Nat.reduceLeDiff, Nat.reduceEqDiff, Nat.reduceBEq, Nat.reduceBNe, Int.reduceToNat, Int.reduceLT, Int.reduceLE, Int.reduceNeg, reduceCtorEq, Int.reduceEq, Int.reduceNe, takeCs, List.length_append, List.reverse_cons]
                  exact ⟨renL_F (by simp -dsimp -implicitDefEqProofs (maxSteps := 1000000) only [go_sem, ↓reduceIte, Nat.reduceAdd, Nat.reduceSub, Nat.reduceMul, Nat.reduceLT, Nat.reduceLeDiff, Nat.reduceEqDiff, Nat.reduceBEq, Nat.reduceBNe, Int.reduceToNat, Int.reduceLT, Int.reduceLE, Int.reduceNeg, reduceCtorEq, Int.reduceEq, Int.reduceNe]; try exact ⟨trivial, rfl⟩), renL_cl (by simp [Ss]) (clSs _), renL_cl (by simp [Cs]) (clCs _)⟩
                · intro n hn
                  simp only [List.mem_singleton] at hn
                  subst hn
                  exact ⟨0, _, _, rfl, rfl, rfl, rfl, rfl, by simp, by simp⟩
              · rw [if_neg (by first | omega | (simp only [List.length_append, List.length_cons, List.length_nil]; omega))] at he
                refine ⟨⟨(m, ⟨d, p, x.v :: c :: q, s + 1⟩), by show s + 1 ≤ 200000; omega, by
                  show 2 * (200000 - (s + 1)) + (x.v :: c :: q).length < m; try simp only [List.length_cons]
                  omega, by
                  show (d).length + (x.v :: c :: q).length ≤ most + 1; try simp only [List.length_append, List.length_cons, List.length_nil]
                  omega, he⟩, by show m < m + 1; omega, ?_⟩
                refine (Le.cut 99 0).trans ?_
                simp only [i_cut_cons, i_cut_nil, Nat.reduceEqDiff, if_true, if_false, reduceCtorEq, takeCs, ↓reduceIte]
                refine Le.tl (Ls := [[(0, .ptr 0 0 0)]]) [(2, 25)] (by simp -dsimp -implicitDefEqProofs (maxSteps := 1000000) only [go_sem, ↓reduceIte, Nat.reduceAdd, Nat.reduceSub, Nat.reduceMul, Nat.reduceLT, Nat.reduceLeDiff, Nat.reduceEqDiff, Nat.reduceBEq, Nat.reduceBNe, Int.reduceToNat, Int.reduceLT, Int.reduceLE, Int.reduceNeg, reduceCtorEq, Int.reduceEq, Int.reduceNe]) ?_ (by simp) (by simp [sg]) ⟨by simp -dsimp -implicitDefEqProofs (maxSteps := 1000000) only [go_sem, ↓reduceIte, Nat.reduceAdd, Nat.reduceSub, Nat.reduceMul, Nat.reduceLT, Nat.reduceLeDiff, Nat.reduceEqDiff, Nat.reduceBEq, Nat.reduceBNe, Int.reduceToNat, Int.reduceLT, Int.reduceLE, Int.reduceNeg, reduceCtorEq, Int.reduceEq, Int.reduceNe], trivial⟩
                simp -dsimp -implicitDefEqProofs (maxSteps := 1000000) only [go_sem, ↓reduceIte, Nat.reduceAdd, Nat.reduceSub, Nat.reduceMul, Nat.reduceLT, Nat.reduceLeDiff, Nat.reduceEqDiff, Nat.reduceBEq, Nat.reduceBNe, Int.reduceToNat, Int.reduceLT, Int.reduceLE, Int.reduceNeg, reduceCtorEq, Int.reduceEq, Int.reduceNe, takeCs, List.length_append, List.reverse_cons]
                exact ⟨renL_F (by simp -dsimp -implicitDefEqProofs (maxSteps := 1000000) only [go_sem, ↓reduceIte, Nat.reduceAdd, Nat.reduceSub, Nat.reduceMul, Nat.reduceLT, Nat.reduceLeDiff, Nat.reduceEqDiff, Nat.reduceBEq, Nat.reduceBNe, Int.reduceToNat, Int.reduceLT, Int.reduceLE, Int.reduceNeg, reduceCtorEq, Int.reduceEq, Int.reduceNe]; try exact ⟨trivial, rfl⟩), renL_cl (by simp [Ss]) (clSs _), renL_cl (by simp [Cs]) (clCs _)⟩
    · match m, q, hn, he, h with
      | m + 1, [], hn, he, h =>
        simp only [setF] at he
        rw [he]
        refine FinM.mk [] [(0, .ptr 0 0 0)] (by simp -dsimp -implicitDefEqProofs (maxSteps := 1000000) only [go_sem, ↓reduceIte, Nat.reduceAdd, Nat.reduceSub, Nat.reduceMul, Nat.reduceLT, Nat.reduceLeDiff, Nat.reduceEqDiff, Nat.reduceBEq, Nat.reduceBNe, Int.reduceToNat, Int.reduceLT, Int.reduceLE, Int.reduceNeg, reduceCtorEq, Int.reduceEq, Int.reduceNe]) ?_ (by simp) (by simp [sg]) (by simp -dsimp -implicitDefEqProofs (maxSteps := 1000000) only [go_sem, ↓reduceIte, Nat.reduceAdd, Nat.reduceSub, Nat.reduceMul, Nat.reduceLT, Nat.reduceLeDiff, Nat.reduceEqDiff, Nat.reduceBEq, Nat.reduceBNe, Int.reduceToNat, Int.reduceLT, Int.reduceLE, Int.reduceNeg, reduceCtorEq, Int.reduceEq, Int.reduceNe]) ?_
        · simp -dsimp -implicitDefEqProofs (maxSteps := 1000000) only [go_sem, ↓reduceIte, Nat.reduceAdd, Nat.reduceSub, Nat.reduceMul, Nat.reduceLT, Nat.reduceLeDiff, Nat.reduceEqDiff, Nat.reduceBEq, Nat.reduceBNe, Int.reduceToNat, Int.reduceLT, Int.reduceLE, Int.reduceNeg, reduceCtorEq, Int.reduceEq, Int.reduceNe]
          exact ⟨renL_F (by simp -dsimp -implicitDefEqProofs (maxSteps := 1000000) only [go_sem, ↓reduceIte, Nat.reduceAdd, Nat.reduceSub, Nat.reduceMul, Nat.reduceLT, Nat.reduceLeDiff, Nat.reduceEqDiff, Nat.reduceBEq, Nat.reduceBNe, Int.reduceToNat, Int.reduceLT, Int.reduceLE, Int.reduceNeg, reduceCtorEq, Int.reduceEq, Int.reduceNe]), renL_cl rfl (clSs _), renL_cl rfl (clCs _)⟩
        · intro n hn
          simp only [List.mem_singleton] at hn
          subst hn
          exact ⟨0, _, _, rfl, rfl, rfl, rfl, rfl, by simp, by simp⟩
      | m + 1, c :: q, hn, he, h => exact absurd (by simp only [List.length_cons]; omega) h
end

section
set_option maxRecDepth 20000
attribute [local go_sem] clIntsL clRusL
/-- A copy. -/
theorem clone43 (l : List Int) (hl : l.length < 2 ^ 40) : NFun Try.prog 43 [Ints l] 1 (Cs l) := by
  refine MFun.toN ?_ (clCs l)
  refine MFun.intro 400 [2] mixed Try.func43 (by kernel_rfl) rfl (by rw [Try.results43]; rfl) (Nat.le_of_ble_eq_true rfl) ?_; rw [Try.ntmps43]
  simp -dsimp -implicitDefEqProofs (maxSteps := 1000000) only [go_sem, ↓reduceIte, Nat.reduceAdd, Nat.reduceSub, Nat.reduceMul, Nat.reduceLT, Nat.reduceLeDiff, Nat.reduceEqDiff, Nat.reduceBEq, Nat.reduceBNe, Int.reduceToNat, Int.reduceLT, Int.reduceLE, Int.reduceNeg, reduceCtorEq, Int.reduceEq, Int.reduceNe]
  refine AtOp.isnil (d := 3) rfl (by kernel_rfl) (by simp -dsimp -implicitDefEqProofs (maxSteps := 1000000) only [go_sem, ↓reduceIte, Nat.reduceAdd, Nat.reduceSub, Nat.reduceMul, Nat.reduceLT, Nat.reduceLeDiff, Nat.reduceEqDiff, Nat.reduceBEq, Nat.reduceBNe, Int.reduceToNat, Int.reduceLT, Int.reduceLE, Int.reduceNeg, reduceCtorEq, Int.reduceEq, Int.reduceNe]; rfl) fun b hb => ?_
  simp -dsimp -implicitDefEqProofs (maxSteps := 1000000) only [go_sem, ↓reduceIte, Nat.reduceAdd, Nat.reduceSub, Nat.reduceMul, Nat.reduceLT, Nat.reduceLeDiff, Nat.reduceEqDiff, Nat.reduceBEq, Nat.reduceBNe, Int.reduceToNat, Int.reduceLT, Int.reduceLE, Int.reduceNeg, reduceCtorEq, Int.reduceEq, Int.reduceNe]
  refine ⟨fun h => ?_, fun h => ?_⟩
  · have hl0 : l = [] := by
      cases l with
      | nil => rfl
      | cons x r => exact absurd (hb (by simp)) (by rw [h]; simp)
    subst hl0
    exact FinM.mk0 [] (by simp -dsimp -implicitDefEqProofs (maxSteps := 1000000) only [go_sem, ↓reduceIte, Nat.reduceAdd, Nat.reduceSub, Nat.reduceMul, Nat.reduceLT, Nat.reduceLeDiff, Nat.reduceEqDiff, Nat.reduceBEq, Nat.reduceBNe, Int.reduceToNat, Int.reduceLT, Int.reduceLE, Int.reduceNeg, reduceCtorEq, Int.reduceEq, Int.reduceNe]) (by simp -dsimp -implicitDefEqProofs (maxSteps := 1000000) only [go_sem, ↓reduceIte, Nat.reduceAdd, Nat.reduceSub, Nat.reduceMul, Nat.reduceLT, Nat.reduceLeDiff, Nat.reduceEqDiff, Nat.reduceBEq, Nat.reduceBNe, Int.reduceToNat, Int.reduceLT, Int.reduceLE, Int.reduceNeg, reduceCtorEq, Int.reduceEq, Int.reduceNe]) (by simp) (by simp [sg])
  · have hl2 : l.length ≤ 1099511627776 := by omega
    simp -dsimp -implicitDefEqProofs (maxSteps := 1000000) only [go_sem, ↓reduceIte, Nat.reduceAdd, Nat.reduceSub, Nat.reduceMul, Nat.reduceLT, Nat.reduceLeDiff, Nat.reduceEqDiff, Nat.reduceBEq, Nat.reduceBNe, Int.reduceToNat, Int.reduceLT, Int.reduceLE, Int.reduceNeg, reduceCtorEq, Int.reduceEq, Int.reduceNe, List.length_map]
    refine ⟨by omega, fun c hc q hq => ?_, FinM.mk0 [(0, 1)] (by simp -dsimp -implicitDefEqProofs (maxSteps := 1000000) only [go_sem, ↓reduceIte, Nat.reduceAdd, Nat.reduceSub, Nat.reduceMul, Nat.reduceLT, Nat.reduceLeDiff, Nat.reduceEqDiff, Nat.reduceBEq, Nat.reduceBNe, Int.reduceToNat, Int.reduceLT, Int.reduceLE, Int.reduceNeg, reduceCtorEq, Int.reduceEq, Int.reduceNe]) (by simp -dsimp -implicitDefEqProofs (maxSteps := 1000000) only [go_sem, ↓reduceIte, Nat.reduceAdd, Nat.reduceSub, Nat.reduceMul, Nat.reduceLT, Nat.reduceLeDiff, Nat.reduceEqDiff, Nat.reduceBEq, Nat.reduceBNe, Int.reduceToNat, Int.reduceLT, Int.reduceLE, Int.reduceNeg, reduceCtorEq, Int.reduceEq, Int.reduceNe]; exact renL_cl rfl (clCs l)) (by simp) (by simp [sg])⟩
    obtain ⟨x, _, rfl⟩ := List.mem_map.1 hc
    simp at hq; subst hq; rfl
end

end Go.Proofs.Ytdamfkckjcplcaa
