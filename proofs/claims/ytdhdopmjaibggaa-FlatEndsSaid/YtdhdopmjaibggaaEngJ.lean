/- The engine, part J: a function's answer out of the run of its text. -/
import Derived.Test.YtdhdopmjaibggaaEngI
set_option linter.unusedSimpArgs false
set_option linter.unusedVariables false
namespace Go.Eng
open Go Go.RowKit

def res1 (P : Program) (s : AState) (r : ResultVar) (K : AV → Prop) : Prop :=
  match r with
  | .tmp t => K (frzA (find s.h) 4 (s.t t))
  | .cell a t =>
    (match s.t a with
     | .ptr n i j => (match find s.h n with | some k => ∃ ch, k.l[i]? = some ch ∧ loadK P t ch j fun av => K (frzA (find s.h) 4 av) | none => False)
     | _ => False)

def resK (P : Program) (s : AState) : List ResultVar → (List AV → Prop) → Prop
  | [], K => K []
  | r :: rs, K => res1 P s r fun x => resK P s rs fun l => K (x :: l)

def tupA : List AV → AV
  | [x] => x
  | l => .t l

def FinA (P : Program) (rs : List ResultVar) (R : AV) (s : AState) : Prop := resK P s rs fun l => tupA l = R

def resOne (tmps : Array Value) : ResultVar → Sem Value
  | .tmp t => pure (tmps.getD t undef)
  | .cell a t => do loadVar t (← asAddr (tmps.getD a undef))

section
variable {C : Ctx} {s : AState} {β : Bt} {a : Act} {w : World}

theorem allN_drop (h : List (Nat × Blk)) (ns : List Nat) (hall : ∀ p ∈ h, p.1 ∈ ns) : dropN ns h = [] := by
  unfold dropN
  rw [List.filter_eq_nil_iff]
  intro p hp
  simp [hall p hp]

theorem frz_out (h : StR C s β a w) (d : Nat) {x : AV} {u : Value} (hx : RS (XOf C.F β s.h) β w x u) : RS C.F β w (frzA (find s.h) d x) u := by
  have := frzA_sound h (s.h.map (·.1) ++ namesA (find s.h) d x) d x u hx (fun n hn => List.mem_append_right _ hn)
  rw [allN_drop s.h _ (fun p hp => List.mem_append_left _ (List.mem_map_of_mem hp))] at this
  exact this.anti fun b hb => .inl hb

theorem res1_sound (h : StR C s β a w) {r : ResultVar} {K : AV → Prop} (hr : res1 C.P s r K) :
    ∃ av v, K av ∧ (resOne a.tmps r).run C.P w = .ok v w ∧ RS C.F β w av v := by
  unfold res1 at hr
  split at hr
  · rename_i t
    exact ⟨_, _, hr, rfl, frz_out h 4 (h.read (.tmp t))⟩
  · rename_i b t
    split at hr
    case h_2 => exact hr.elim
    rename_i n i j hb
    have hrd := h.read (.tmp b)
    simp only [evA, hb] at hrd
    simp only [Act.eval] at hrd
    generalize hv : a.tmps.getD b undef = va at hrd
    cases hrd with
    | ptr hbb =>
      split at hr
      case h_2 => exact hr.elim
      rename_i k hk
      obtain ⟨ch, hi, hl⟩ := hr
      obtain ⟨av, x, h1, h2, h3⟩ := loadK_own (w := w) hbb (h.look n k hk) hi hl
      exact ⟨_, x, h1, by simp [resOne, hv, asAddr, h2], frz_out h 4 h3⟩

theorem resK_sound (h : StR C s β a w) : ∀ (rs : List ResultVar) (K : List AV → Prop), resK C.P s rs K →
    ∃ l vs, K l ∧ (rs.mapM (resOne a.tmps)).run C.P w = .ok vs w ∧
      l.length = vs.length ∧ ∀ (k : Nat) (s : AV) (u : Value), l[k]? = some s → vs[k]? = some u → RS C.F β w s u
  | [], K, hr => ⟨[], [], hr, by simp, rfl, fun k s u hs => by simp at hs⟩
  | r :: rs, K, hr => by
    obtain ⟨av, v, h1, h2, h3⟩ := res1_sound h hr
    obtain ⟨l, vs, k1, k2, k3, k4⟩ := resK_sound h rs _ h1
    refine ⟨av :: l, v :: vs, k1, ?_, by simp [k3], fun k s u hs hu => ?_⟩
    · rw [List.mapM_cons]
      simp only [Sem.run_bind, h2, Result.andThen_ok, k2, Sem.run_pure]
    · match k with
      | 0 => simp at hs hu; subst hs; subst hu; exact h3
      | k + 1 => simp at hs hu; exact k4 k s u hs hu

theorem FinA_sound (h : StR C s β a w) {fn : Func} {R : AV} (hr : FinA C.P fn.results.toList R s) (hcl : Cl R) :
    ∃ v, (results fn a.tmps).run C.P w = .ok v w ∧ RS C.F B0 w R v := by
  obtain ⟨l, vs, h1, h2, h3, h4⟩ := resK_sound h _ _ hr
  have hm : (fn.results.mapM (resOne a.tmps)).run C.P w = .ok vs.toArray w := by
    rw [Array.mapM_eq_mapM_toList]
    simp only [Sem.run_map, h2, Result.andThen_ok]
  have hr' : (results fn a.tmps).run C.P w = .ok (if h : vs.toArray.size = 1 then vs.toArray[0] else .tuple vs.toArray) w := by
    have he : results fn a.tmps = (do let vs ← fn.results.mapM (resOne a.tmps); pure (if h : vs.size = 1 then vs[0] else .tuple vs)) := by
      unfold results
      congr 2
    rw [he]
    simp only [Sem.run_bind, hm, Result.andThen_ok, Sem.run_pure]
  refine ⟨_, hr', ?_⟩
  suffices hs : RS C.F β w R (if h : vs.toArray.size = 1 then vs.toArray[0] else .tuple vs.toArray) from hs.closed hcl B0
  subst h1
  match l, vs, h3, h4 with
  | [x], [v], _, h4 => exact h4 0 x v rfl rfl
  | [], [], h3, h4 => exact .t rfl fun k s u hs => by simp at hs
  | x :: y :: l, v :: u :: vs, h3, h4 =>
    have : ¬ (v :: u :: vs).toArray.size = 1 := by simp
    rw [dif_neg this]
    exact .t (by simpa using h3) fun k s' u' hs hu => h4 k s' u' hs (by simpa using hu)
end

theorem shape_isC {w : World} {b t m : Nat} (h : w.shape? b = some (t, m)) : IsC w b := by
  unfold World.shape? at h
  split at h
  · rename_i c t q he; exact ⟨_, _, _, he⟩
  · cases h

/-- What is turned are no cells. -/
theorem RS.off {X : Nat → Prop} {β : Bt} {w w' : World} (hw : ∀ b, IsC w b → w'.heap[b]? = w.heap[b]?) {x : AV} {u : Value} (h : RS X β w x u) : RS X β w' x u := by
  induction h with
  | v x => exact .v x
  | unk x => exact .unk x
  | ptr h => exact .ptr h
  | sl h hl hs hc => exact .sl h hl (by rw [shape_of_heap (hw _ (shape_isC hs))]; exact hs) hc
  | slz => exact .slz
  | ez => exact .ez
  | ro0 => exact .ro0
  | ro u hX hb hl hd hu _ ih =>
    exact .ro u hX (hb.to (hw _ hb)) hl hd (fun k hk => by rw [cell_of_heap (hw _ hb)]; exact hu k hk) ih
  | rp u hX hb hu _ ih =>
    exact .rp u hX (hb.to (hw _ hb)) (fun k hk => by rw [cell_of_heap (hw _ hb)]; exact hu k hk) ih
  | fn hl _ ih => exact .fn hl ih
  | g hl _ ih => exact .g hl ih
  | t hl _ ih => exact .t hl ih

theorem OwnR.off {X : Nat → Prop} {β : Bt} {w w' : World} (hw : ∀ b, IsC w b → w'.heap[b]? = w.heap[b]?) {n : Nat} {k : Blk} (h : OwnR X β w n k) : OwnR X β w' n k := by
  rcases h with ⟨b, o, c, t, h1, h2, h3, h4, h5⟩ | ⟨h1, h2⟩
  · refine .inl ⟨b, o, c, t, h1, by rw [hw _ ⟨_, _, _, h2⟩]; exact h2, h3, h4, fun i j ch s hi hj => ?_⟩
    obtain ⟨u, hu, hr⟩ := h5 i j ch s hi hj
    exact ⟨u, hu, hr.off hw⟩
  · exact .inr ⟨h1, h2⟩

theorem StR.off {C : Ctx} {s : AState} {β : Bt} {a : Act} {w w' : World} (h : StR C s β a w) (hw : ∀ b, IsC w b → w'.heap[b]? = w.heap[b]?) (hfr : Fr C.Pm C.W w') {ds : List Deferred} (hds : Bk C w' ds) : StR C s β { a with defers := ds } w' :=
  ⟨hds, h.size, fun i => (h.tm i).off hw, fun p hp => (h.own p hp).off hw, h.lt, h.βlt, h.nd, h.inj, h.mine, hfr, h.Flt, ⟨h.sv.1, fun j f g hf hg i => (h.sv.2 j f g hf hg i).off hw⟩, h.yy⟩

/-- A block that is no cells is turned, and may be. -/
theorem off_put {w : World} {D : Nat} {o o' : Obj} (hD : w.heap[D]? = some o) (ho : ∀ c t q, o ≠ .cells c t q) (b : Nat) (hb : IsC w b) : (w.putObj D o').heap[b]? = w.heap[b]? := by
  refine World.putObj_heap_other fun e => ?_
  subst e
  obtain ⟨c, t, q, hc⟩ := hb
  rw [hD] at hc; cases hc; exact ho _ _ _ rfl

theorem Fr.put {Pm : Nat → Prop} {W w : World} (h : Fr Pm W w) {D : Nat} {o o' : Obj} (hD : w.heap[D]? = some o) (ho : ∀ c t q, o ≠ .cells c t q) (hP : W.heap.size ≤ D ∨ Pm D) : Fr Pm W (w.putObj D o') := by
  refine ⟨h.os, h.tape, h.output, by simpa [World.putObj] using h.size, fun b hb hp => ?_, fun b t m hs => ?_⟩
  · have hne : b ≠ D := by
      intro e; subst e
      rcases hP with h' | h'
      · omega
      · exact hp h'
    rw [World.putObj_heap_other hne]
    exact h.block b hb hp
  · have h1 := h.shape b t m hs
    rw [shape_of_heap (off_put hD ho b (shape_isC h1))]; exact h1

theorem leaves {C : Ctx} {s : AState} {β : Bt} {F : Fence} {n : Nat} {fn : Func} {R : AV} {Rp : Ending → World → Prop} (hr : FinA C.P fn.results.toList R s) (hcl : Cl R)
    (hR : ∀ v w', RS C.F B0 w' R v → Fr C.Pm C.W w' → Rp (.returned v) w') : ∀ (ds : List Deferred) (a : Act) (w : World), a.defers = ds → StR C s β a w → LeavesInM F n C.P fn a.tmps Rp ds .returning w := by
  intro ds
  induction ds with
  | nil =>
    intro a w _ h
    obtain ⟨v, h1, h2⟩ := FinA_sound h hr hcl
    exact ⟨v, h1, hR v w h2 h.fr⟩
  | cons d ds ih =>
    intro a w hd h
    obtain ⟨D, h1, h2, h3, h4⟩ := h.defers.marks d (by rw [hd]; exact List.mem_cons_self)
    have hnd := h.defers.nd
    rw [hd, List.nodup_cons] at hnd
    have hno : ∀ c t q, Obj.deferred (some []) ≠ .cells c t q := fun _ _ _ => by simp
    refine ⟨by simp, .inl ⟨D, _, by rw [h1], run_takeDeferred h2, ?_⟩⟩
    refine ih { a with defers := ds } _ rfl (h.off (off_put h2 hno) (h.fr.put h2 hno h3) ⟨fun e he => ?_, hnd.2, fun l hl => ?_⟩)
    · obtain ⟨D', g1, g2, g3⟩ := h.defers.marks e (by rw [hd]; exact List.mem_cons_of_mem _ he)
      refine ⟨D', g1, ?_, g3⟩
      rw [World.putObj_heap_other]
      · exact g2
      · intro e'; subst e'; exact hnd.1 (by rw [h1, ← g1]; exact he)
    · obtain ⟨⟨r, hr⟩, hF⟩ := h.defers.rd l hl
      refine ⟨⟨r, ?_⟩, hF⟩
      rw [World.putObj_heap_other]
      · exact hr
      · intro e'; subst e'; rw [h2] at hr; cases hr

/-- The slots of a function's start: the arguments, and nothing else is known. -/
def slots (l : List AV) : Nat → AV := fun i => l.getD i .unk

theorem PFun.intro {P : Program} {f : FuncId} {fn : Func} {c : Code} {args : List AV} {R : AV} (n : Nat) (hm : P.follows .mixedOrders = true) (hf : P.funcs[f]? = some fn) (hname : (fn.name == "runtime.NumGoroutine") = false)
    (hb : fn.body = some c) (hcl : Cl R) (hlen : args.length ≤ fn.ntmps)
    (hrun : vcRun P n [.c c] (FinA P fn.results.toList R) ⟨fn.ntmps, slots args, [], 0, .nil⟩) : PFun P f args R := by
  refine ⟨⟨fn, hf, hname, by simp [hb]⟩, fun X w vs hX hl hR => ?_⟩
  let C : Ctx := ⟨P, X, fun _ => False, w, [], none, none⟩
  have hst : StR C ⟨fn.ntmps, slots args, [], 0, .nil⟩ B0 { tmps := vs ++ Array.replicate (fn.ntmps - vs.size) undef, defers := [] } w := by
    refine ⟨⟨fun d hd => by simp at hd, List.nodup_nil, fun l hl => by cases hl⟩, by simp; omega, fun i => ?_, by simp, by simp, fun n r hr => by simp [B0] at hr, by simp, by simp, by simp, ⟨rfl, rfl, rfl, Nat.le_refl _, fun _ _ _ => rfl, fun _ _ _ h => h⟩, hX, ⟨rfl, fun j f g hf => by simp [Aux.nil] at hf⟩, rfl⟩
    by_cases hi' : i < args.length
    · have hlt : i < vs.size := by omega
      have e1 : (vs ++ Array.replicate (fn.ntmps - vs.size) undef).getD i undef = vs[i] := by
        rw [Array.getD_eq_getD_getElem?, Array.getElem?_append_left hlt, Array.getElem?_eq_getElem hlt]; rfl
      simp only [e1, slots]
      have e2 : args.getD i .unk = args[i] := by simp [List.getD, hi']
      rw [e2]
      refine (hR i _ _ (List.getElem?_eq_getElem hi') (Array.getElem?_eq_getElem hlt)).anti fun b hb => ?_
      rcases hb with hb | ⟨p, hp, _⟩
      · exact hb
      · simp at hp
    · have : args.getD i .unk = .unk := by simp [List.getD, List.getElem?_eq_none (Nat.le_of_not_lt hi')]
      simp only [slots, this]; exact .unk _
  refine (callsIn_wide (n := 0)).1 (callsIn_of_wp_marks hf hb trivial ?_)
  have hsound := vcRun_sound (P := P) hm n none (· = C) (fun a w' => LeavesInM Fence.wide 0 P fn a.tmps (fun e w' => ∃ v, e = .returned v ∧ RS X B0 w' R v ∧ Ext w w') a.defers .returning w') (FinA P fn.results.toList R) (GoodC.one (C := C) rfl rfl)
    (fun s a w' hQ hs => by
      obtain ⟨C', rfl, β, hs⟩ := hs
      exact leaves (C := C) hQ hcl (fun v w'' h1 h2 => ⟨v, rfl, h1, ⟨h2.os, h2.tape, h2.output, h2.size, fun b hb => h2.block b hb (fun h => h)⟩⟩) _ a w' rfl hs) _ _ _ _ hrun ⟨C, rfl, B0, hst⟩
  simp only [Kont] at hsound
  refine Code.wpIn_mono (fun e a' w' he => ?_) hsound
  cases e with
  | normal => exact he
  | ret => exact he
  | _ => exact he.elim

end Go.Eng
