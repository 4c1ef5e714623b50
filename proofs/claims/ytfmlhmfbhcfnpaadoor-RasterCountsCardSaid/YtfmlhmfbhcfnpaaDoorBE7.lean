/- The engine of these proofs, part 7: how a function's text is run over abstract values, and why that is right. Conditions: none (a library text). -/
import Derived.Test.YtfmlhmfbhcfnpaaDoorBE6
import Derived.Laws.IdiomStrings
import Derived.Laws.BytesArg
import Derived.Lib.Builder
import Derived.Lib.UnsafeStr
import Derived.Lib.Bytealg
import Derived.Laws.Runes
import Derived.ChangeKeysEq
set_option linter.unusedSimpArgs false
set_option linter.unusedVariables false
namespace Go.Eng
open Go Go.RowKit

section
variable {C : Ctx} {s : AState} {β : Bt} {a : Act} {w : World}
end

theorem Le.trans {s s' s'' : AState} (h : Le s s') (h' : Le s' s'') : Le s s'' := fun C a w hs => h' C a w (h C a w hs)

/-- A call, where less is known. -/
theorem AtFn.le {P : Program} {rec : List It → (AState → Prop) → AState → Prop} {o : Oper} {f : FuncId} {as : List AV} {k : List It} {Q : AState → Prop} {s : AState} (s' : AState) (as' : List AV) (hle : Le s s')
    (hf : ∀ fo xs ts, o.op = .call ⟨.value fo, xs, ts⟩ → evA s'.t fo = .fn f [] ∧ xs.toList.map (evA s'.t) = as') (hk : AtFn P rec o f as' k Q s') : AtFn P rec o f as k Q s := by
  rintro ⟨fo, xs, ts, caps, ho, h1, h2⟩ ro Cs next E hg hnext a w ⟨C, hC, hs⟩
  obtain ⟨e1, e2⟩ := hf fo xs ts ho
  exact hk ⟨fo, xs, ts, [], ho, e1, by rw [e2]; simp⟩ ro Cs next E hg hnext a w ⟨C, hC, hle C a w hs⟩
end Go.Eng

set_option linter.unusedSimpArgs false
set_option linter.unusedVariables false
namespace Go.Eng
open Go Go.RowKit

/-- Blocks by name, as they lie in a world; X: what else may not be looked at. -/
structure Hp (X : Nat → Prop) (β : Bt) (h : List (Nat × Blk)) (k : Nat) (w : World) : Prop where
  own : ∀ p ∈ h, OwnR (XOf X β h) β w p.1 p.2
  lt : ∀ p ∈ h, p.1 < k
  βlt : ∀ n r, β n = some r → n < k
  nd : (h.map (·.1)).Nodup
  inj : ∀ p ∈ h, ∀ q ∈ h, ∀ b o e o' e', β p.1 = some (b, o, e) → β q.1 = some (b, o', e') → p.1 = q.1
  off : ∀ p ∈ h, ∀ b o e, β p.1 = some (b, o, e) → ¬ X b

abbrev Mp := Option (Nat × MpE)
/-- The map, as it lies in a world. -/
def MpW (X : Nat → Prop) (w : World) (m : Mp) : Prop := ∀ b l, m = some (b, l) → w.heap[b]? = some (mpO l) ∧ ¬ X b
/-- The real blocks of some names, and the map's. -/
def OwnM (β : Bt) (h : List (Nat × Blk)) (m : Mp) (b : Nat) : Prop := Own β h b ∨ ∃ l, m = some (b, l)

/-- What a function answers that is handed blocks h0 (names below k0) and a map m0: R, the blocks h1 (names below k1) and the map m1; a name of pin stays where it was. -/
def MFun (P : Program) (f : FuncId) (args : List AV) (h0 : List (Nat × Blk)) (k0 : Nat) (m0 : Mp) (pin : List Nat) (R : AV) (h1 : List (Nat × Blk)) (k1 : Nat) (m1 : Mp) : Prop :=
  (∃ fn, P.funcs[f]? = some fn ∧ (fn.name == "runtime.NumGoroutine") = false ∧ fn.body.isSome = true) ∧
  ∀ (X : Nat → Prop) (β : Bt) (w : World) (vs : Array Value), (∀ b, X b → b < w.heap.size) → Hp X β h0 k0 w → MpW X w m0 → args.length = vs.size →
    (∀ (k : Nat) (s : AV) (u : Value), args[k]? = some s → vs[k]? = some u → RS (XOf X β h0) β w s u) →
    Calls P f vs w fun e w' => ∃ v β', e = .returned v ∧ (∀ n ∈ pin, β' n = β n) ∧ Hp X β' h1 k1 w' ∧ MpW X w' m1 ∧ RS (XOf X β' h1) β' w' R v ∧
      Fr (OwnM β h0 m0) w w' ∧ ∀ b, OwnM β' h1 m1 b → w.heap.size ≤ b ∨ OwnM β h0 m0 b

/-- The context of a run with a map. -/
theorem GoodC.mp {P : Program} {C : Ctx} (hP : C.P = P) : GoodC P C.ro (fun C' => ∃ m, C' = { C with y := some (.mp m) }) :=
  ⟨fun _ ⟨_, h⟩ => h ▸ hP, fun _ ⟨_, h⟩ => h ▸ rfl, fun _ _ _ _ _ _ _ ⟨_, h⟩ hy' => (by subst h; cases hy'), fun _ _ m' ⟨_, h⟩ _ => ⟨m', by subst h; rfl⟩⟩

section
variable {C : Ctx} {s : AState} {β : Bt} {a : Act} {w : World}

theorem leavesG {F : Fence} {n : Nat} {fn : Func} {Rp : Ending → World → Prop} (hR : ∀ (a : Act) w', StR C s β a w' → ∃ v, (results fn a.tmps).run C.P w' = .ok v w' ∧ Rp (.returned v) w') :
    ∀ (ds : List Deferred) (a : Act) (w : World), a.defers = ds → StR C s β a w → LeavesInM F n C.P fn a.tmps Rp ds .returning w := by
  intro ds
  induction ds with
  | nil =>
    intro a w _ h
    obtain ⟨v, h1, h2⟩ := hR a w h
    exact ⟨v, h1, h2⟩
  | cons d ds ih =>
    intro a w hd h
    obtain ⟨D, h1, h2, h3, h4⟩ := h.defers.marks d (by rw [hd]; exact List.mem_cons_self)
    have hnd := h.defers.nd
    rw [hd, List.nodup_cons] at hnd
    have hno : ∀ c t q, Obj.deferred (some []) ≠ .cells c t q := fun _ _ _ => by simp
    refine ⟨by simp, .inl ⟨D, _, by rw [h1], run_takeDeferred h2, ?_⟩⟩
    refine ih { a with defers := ds } _ rfl (h.off (off_put h2 hno) (h.fr.put h2 hno h3) ⟨fun e he => ?_, hnd.2, fun l hl => ?_, fun b l hb => ?_⟩)
    · obtain ⟨D', g1, g2, g3⟩ := h.defers.marks e (by rw [hd]; exact List.mem_cons_of_mem _ he)
      refine ⟨D', g1, ?_, g3⟩
      rw [World.putObj_heap_other]
      · exact g2
      · intro e'; subst e'; exact hnd.1 (by rw [h1, ← g1]; exact he)
    · obtain ⟨⟨r, hr⟩, hF⟩ := h.defers.rd l hl
      refine ⟨⟨r, ?_⟩, hF⟩
      rw [World.putObj_heap_other]
      · exact hr
      · intro e'; subst e'; rw [h2] at hr; cases hr
    · obtain ⟨g1, g2, g3⟩ := h.defers.mp b l hb
      refine ⟨?_, g2, g3⟩
      rw [World.putObj_heap_other]
      · exact g1
      · intro e'; subst e'; rw [h2] at g1; cases l <;> cases g1

/-- What the slots ts hold, given back. -/
theorem results_tmps (h : StR C s β a w) {fn : Func} {ts : List Nat} (hres : fn.results.toList = ts.map ResultVar.tmp) :
    ∃ v, (results fn a.tmps).run C.P w = .ok v w ∧ RS (XOf C.F β s.h) β w (tupA (ts.map s.t)) v := by
  have hl : ∀ ts : List Nat, ((ts.map ResultVar.tmp).mapM (resOne a.tmps)).run C.P w = .ok (ts.map fun t => a.tmps.getD t undef) w := by
    intro ts
    induction ts with
    | nil => simp
    | cons t ts ih =>
      rw [List.map_cons, List.mapM_cons]
      simp only [Sem.run_bind, resOne, Sem.run_pure, Result.andThen_ok, List.map_cons, ih]
  have hm : (fn.results.mapM (resOne a.tmps)).run C.P w = .ok (ts.map fun t => a.tmps.getD t undef).toArray w := by
    rw [Array.mapM_eq_mapM_toList, hres]
    simp only [Sem.run_map, hl, Result.andThen_ok]
  have hr' : (results fn a.tmps).run C.P w = .ok (if h : (ts.map fun t => a.tmps.getD t undef).toArray.size = 1 then (ts.map fun t => a.tmps.getD t undef).toArray[0] else .tuple (ts.map fun t => a.tmps.getD t undef).toArray) w := by
    have he : results fn a.tmps = (do let vs ← fn.results.mapM (resOne a.tmps); pure (if h : vs.size = 1 then vs[0] else .tuple vs)) := by
      unfold results
      congr 2
    rw [he]
    simp only [Sem.run_bind, hm, Result.andThen_ok, Sem.run_pure]
  refine ⟨_, hr', ?_⟩
  have key : ∀ (k : Nat) (x : AV) (u : Value), (ts.map s.t)[k]? = some x → (ts.map fun t => a.tmps.getD t undef)[k]? = some u → RS (XOf C.F β s.h) β w x u := by
    intro k x u hx hu
    simp only [List.getElem?_map, Option.map_eq_some_iff] at hx hu
    obtain ⟨i, hi, rfl⟩ := hx
    obtain ⟨j, hj, rfl⟩ := hu
    rw [hi] at hj; cases hj
    exact h.read (.tmp i)
  match ts, key with
  | [x], key => exact key 0 _ _ rfl rfl
  | [], _ => exact .t rfl fun k s u hs => by simp at hs
  | x :: y :: l, key =>
    have : ¬ ((x :: y :: l).map fun t => a.tmps.getD t undef).toArray.size = 1 := by simp
    rw [dif_neg this]
    exact .t (by simp) fun k s' u' hs hu => key k s' u' hs (by simpa using hu)

theorem StR.setC {C' : Ctx} {y' : Option Yl} (h : StR C s β a w) (hF : C'.F = C.F) (hPm : C'.Pm = C.Pm) (hW : C'.W = C.W) (hsv : C'.sv = C.sv) (hy : y' = C'.y) (hbk : Bk C' w a.defers) : StR C' ⟨s.n, s.t, s.h, s.k, ⟨s.x.sv, y'⟩⟩ β a w :=
  ⟨hbk, h.size, by rw [hF]; exact h.tm, by rw [hF]; exact h.own, h.lt, h.βlt, h.nd, h.inj, by rw [hF, hPm, hW]; exact h.mine, by rw [hPm, hW]; exact h.fr, by rw [hF, hW]; exact h.Flt, by rw [hF, hsv]; exact h.sv, hy⟩
end

theorem slots_RS {X : Nat → Prop} {β : Bt} {w : World} {args : List AV} {vs : Array Value} (hl : args.length = vs.size) (hR : ∀ (k : Nat) (s : AV) (u : Value), args[k]? = some s → vs[k]? = some u → RS X β w s u) (i n : Nat) :
    RS X β w (slots args i) ((vs ++ Array.replicate n undef).getD i undef) := by
  by_cases hi' : i < args.length
  · have hlt : i < vs.size := by omega
    have e1 : (vs ++ Array.replicate n undef).getD i undef = vs[i] := by
      rw [Array.getD_eq_getD_getElem?, Array.getElem?_append_left hlt, Array.getElem?_eq_getElem hlt]; rfl
    simp only [e1, slots]
    have e2 : args.getD i .unk = args[i] := by simp [List.getD, hi']
    rw [e2]
    exact hR i _ _ (List.getElem?_eq_getElem hi') (Array.getElem?_eq_getElem hlt)
  · have : args.getD i .unk = .unk := by simp [List.getD, List.getElem?_eq_none (Nat.le_of_not_lt hi')]
    simp only [slots, this]; exact .unk _

/-- The end of a run that hands memory back. -/
def FinM (args : List AV) (h0 : List (Nat × Blk)) (ts : List Nat) (pin : List Nat) (R : AV) (h1 : List (Nat × Blk)) (k1 : Nat) (m1 : Mp) (s : AState) : Prop :=
  ∃ s', Le s s' ∧ s'.h = h1 ∧ s'.k = k1 ∧ s'.x.y = some (.mp m1) ∧ tupA (ts.map s'.t) = R ∧ ∃ f, s'.x.sv = [f] ∧
    ∀ n ∈ pin, ∃ i b b', args[i]? = some (.ptr n 0 0) ∧ f i = .ptr n 0 0 ∧ find h0 n = some b ∧ find h1 n = some b' ∧ b.e = b'.e ∧ b.l ≠ [] ∧ b'.l ≠ []

theorem OwnR.at {X : Nat → Prop} {β : Bt} {w : World} {n : Nat} {k : Blk} (h : OwnR X β w n k) (hl : k.l ≠ []) : ∃ b o, β n = some (b, o, k.e) := by
  rcases h with ⟨b, o, _, _, h1, _⟩ | ⟨h1, _⟩
  · exact ⟨b, o, h1⟩
  · exact absurd h1 hl

theorem RS.ptr_inv {X : Nat → Prop} {β : Bt} {w : World} {n i j : Nat} {u : Value} (h : RS X β w (.ptr n i j) u) {b o e : Nat} (hb : β n = some (b, o, e)) : ∃ b o, β n = some (b, o, e) ∧ u = .pointer (some ⟨b, o + i * e + j, none⟩) := by
  cases h with
  | ptr h => rw [hb] at h; simp only [Option.some.injEq, Prod.mk.injEq] at h; obtain ⟨rfl, rfl, rfl⟩ := h; exact ⟨_, _, hb, rfl⟩

/-- **A contract from the text.** -/
theorem MFun.intro {P : Program} {f : FuncId} {fn : Func} {c : Code} {args : List AV} {h0 : List (Nat × Blk)} {k0 : Nat} {m0 : Mp} {pin : List Nat} {R : AV} {h1 : List (Nat × Blk)} {k1 : Nat} {m1 : Mp} (n : Nat) (ts : List Nat)
    (hm : P.follows .mixedOrders = true) (hf : P.funcs[f]? = some fn) (hname : (fn.name == "runtime.NumGoroutine") = false)
    (hb : fn.body = some c) (hres : fn.results.toList = ts.map ResultVar.tmp) (hlen : args.length ≤ fn.ntmps)
    (hrun : vcRun P n [.c c] (FinM args h0 ts pin R h1 k1 m1) ⟨fn.ntmps, slots args, h0, k0, ⟨[slots args], some (.mp m0)⟩⟩) : MFun P f args h0 k0 m0 pin R h1 k1 m1 := by
  refine ⟨⟨fn, hf, hname, by simp [hb]⟩, fun X β w vs hX hH hM hl hR => ?_⟩
  let C : Ctx := ⟨P, X, OwnM β h0 m0, w, [fun i => vs.getD i undef], some (.mp m0), none⟩
  have hst : StR C ⟨fn.ntmps, slots args, h0, k0, ⟨[slots args], some (.mp m0)⟩⟩ β { tmps := vs ++ Array.replicate (fn.ntmps - vs.size) undef, defers := [] } w := by
    refine ⟨⟨fun d hd => by simp at hd, List.nodup_nil, fun l hl => (by cases hl), fun b l hb => ?_⟩, by simp; omega, fun i => slots_RS hl hR i _, hH.own, hH.lt, hH.βlt, hH.nd, hH.inj, fun p hp b o e hb => ⟨.inr (.inl ⟨p, hp, o, e, hb⟩), hH.off p hp b o e hb⟩,
      ⟨rfl, rfl, rfl, Nat.le_refl _, fun _ _ _ => rfl, fun _ _ _ h => h⟩, hX, ⟨rfl, fun j g g' hg hg' i => ?_⟩, rfl⟩
    · simp only [C, Option.some.injEq, Yl.mp.injEq] at hb
      exact ⟨(hM b l hb).1, .inr (.inr ⟨l, hb⟩), (hM b l hb).2⟩
    · match j with
      | 0 =>
        simp only [C, List.getElem?_cons_zero, Option.some.injEq] at hg hg'
        subst hg; subst hg'
        have := slots_RS (n := 0) hl hR i
        simpa using this
      | j + 1 => simp at hg
  refine (callsIn_wide (n := 0)).1 (callsIn_of_wp_marks hf hb trivial ?_)
  have hsound := vcRun_sound (P := P) hm n none (fun C' => ∃ m, C' = { C with y := some (.mp m) })
    (fun a w' => LeavesInM Fence.wide 0 P fn a.tmps (fun e w' => ∃ v β', e = .returned v ∧ (∀ n ∈ pin, β' n = β n) ∧ Hp X β' h1 k1 w' ∧ MpW X w' m1 ∧ RS (XOf X β' h1) β' w' R v ∧
      Fr (OwnM β h0 m0) w w' ∧ ∀ b, OwnM β' h1 m1 b → w.heap.size ≤ b ∨ OwnM β h0 m0 b) a.defers .returning w') (FinM args h0 ts pin R h1 k1 m1) (GoodC.mp (C := C) rfl)
    (fun s a w' hQ hs => by
      obtain ⟨C', ⟨m, rfl⟩, hs⟩ := hs
      obtain ⟨s', hle, rfl, rfl, hy', hR', fs, hsv', hpin⟩ := hQ
      obtain ⟨β', hs'⟩ := hle _ _ _ hs
      have hy2 := hs'.yy
      rw [hy'] at hy2
      simp only [Option.some.injEq, Yl.mp.injEq] at hy2
      subst hy2
      refine leavesG (C := { C with y := some (.mp m1) }) (fun a w' hs' => ?_) _ a w' rfl hs'
      obtain ⟨v, h3, h4⟩ := results_tmps hs' hres
      rw [hR'] at h4
      refine ⟨v, h3, v, β', rfl, fun q hq => ?_, ⟨hs'.own, hs'.lt, hs'.βlt, hs'.nd, hs'.inj, fun p hp b o e hb => (hs'.mine p hp b o e hb).2⟩, fun b l hb => ?_, h4, hs'.fr, fun b hb => ?_⟩
      · obtain ⟨i, b, b', e1, e2, e3, e4, e5, e6, e7⟩ := hpin q hq
        have hlt : i < vs.size := by have := (List.getElem?_eq_some_iff.1 e1).1; omega
        have r1 := hR i _ _ e1 (Array.getElem?_eq_getElem hlt)
        have r2 := hs'.sv.2 0 fs (fun i => vs.getD i undef) (by rw [hsv']; rfl) rfl i
        rw [e2] at r2
        have e8 : vs.getD i undef = vs[i] := by simp [Array.getD, hlt]
        simp only [e8] at r2
        obtain ⟨bb, oo, hb1⟩ := (hH.own _ (find_mem e3)).at e6
        obtain ⟨bb', oo', hb2⟩ := (hs'.own _ (find_mem e4)).at e7
        simp only at hb1 hb2
        obtain ⟨b1, o1, g1, u1⟩ := r1.ptr_inv hb1
        obtain ⟨b2, o2, g2, u2⟩ := r2.ptr_inv hb2
        rw [u1] at u2
        simp only [Value.pointer.injEq, Option.some.injEq, Addr.mk.injEq, Nat.zero_mul, Nat.add_zero, and_true] at u2
        rw [g1, g2, e5, u2.1, u2.2]
      · obtain ⟨g1, g2, g3⟩ := hs'.defers.mp b l (by rw [hb])
        exact ⟨g1, g3⟩
      · rcases hb with ⟨p, hp, o, e, hb⟩ | ⟨l, hb⟩
        · exact (hs'.mine p hp b o e hb).1
        · exact (hs'.defers.mp b l (by rw [hb])).2.1) _ _ _ _ hrun ⟨C, ⟨m0, rfl⟩, β, hst⟩
  simp only [Kont] at hsound
  refine Code.wpIn_mono (fun e a' w' he => ?_) hsound
  cases e with
  | normal => exact he
  | ret => exact he
  | _ => exact he.elim

/-- A pure function that is run with room for a map. -/
theorem PFun.introM {P : Program} {f : FuncId} {fn : Func} {c : Code} {args : List AV} {R : AV} (n : Nat) (hm : P.follows .mixedOrders = true) (hf : P.funcs[f]? = some fn) (hname : (fn.name == "runtime.NumGoroutine") = false)
    (hb : fn.body = some c) (hcl : Cl R) (hlen : args.length ≤ fn.ntmps)
    (hrun : vcRun P n [.c c] (FinA P fn.results.toList R) ⟨fn.ntmps, slots args, [], 0, ⟨[], some (.mp none)⟩⟩) : PFun P f args R := by
  refine ⟨⟨fn, hf, hname, by simp [hb]⟩, fun X w vs hX hl hR => ?_⟩
  let C : Ctx := ⟨P, X, fun _ => False, w, [], some (.mp none), none⟩
  have hst : StR C ⟨fn.ntmps, slots args, [], 0, ⟨[], some (.mp none)⟩⟩ B0 { tmps := vs ++ Array.replicate (fn.ntmps - vs.size) undef, defers := [] } w := by
    refine ⟨⟨fun d hd => by simp at hd, List.nodup_nil, fun l hl => (by cases hl), fun b l hb => by simp [C] at hb⟩, by simp; omega, fun i => ?_, by simp, by simp, fun n r hr => by simp [B0] at hr, by simp, by simp, by simp, ⟨rfl, rfl, rfl, Nat.le_refl _, fun _ _ _ => rfl, fun _ _ _ h => h⟩, hX, ⟨rfl, fun j f g hf => by simp at hf⟩, rfl⟩
    refine (slots_RS hl hR i _).anti fun b hb => ?_
    rcases hb with hb | ⟨p, hp, _⟩
    · exact hb
    · simp at hp
  refine (callsIn_wide (n := 0)).1 (callsIn_of_wp_marks hf hb trivial ?_)
  have hsound := vcRun_sound (P := P) hm n none (fun C' => ∃ m, C' = { C with y := some (.mp m) }) (fun a w' => LeavesInM Fence.wide 0 P fn a.tmps (fun e w' => ∃ v, e = .returned v ∧ RS X B0 w' R v ∧ Ext w w') a.defers .returning w') (FinA P fn.results.toList R) (GoodC.mp (C := C) rfl)
    (fun s a w' hQ hs => by
      obtain ⟨C', ⟨m, rfl⟩, β, hs⟩ := hs
      exact leaves (C := { C with y := some (.mp m) }) hQ hcl (fun v w'' h1 h2 => ⟨v, rfl, h1, ⟨h2.os, h2.tape, h2.output, h2.size, fun b hb => h2.block b hb (fun h => h)⟩⟩) _ a w' rfl hs) _ _ _ _ hrun ⟨C, ⟨none, rfl⟩, B0, hst⟩
  simp only [Kont] at hsound
  refine Code.wpIn_mono (fun e a' w' he => ?_) hsound
  cases e with
  | normal => exact he
  | ret => exact he
  | _ => exact he.elim
end Go.Eng

set_option linter.unusedSimpArgs false
set_option linter.unusedVariables false
namespace Go.Eng
open Go Go.RowKit

/-- Behind a callee's text, in its caller. -/
def InlQ (rec : List It → (AState → Prop) → AState → Prop) (k : List It) (Q : AState → Prop) (d : Option Nat) (n : Nat) (ts : List Nat) [Tg k] [Tg Q] (s1 : AState) : Prop :=
  match s1.x.sv with
  | [] => False
  | t1 :: sv1 => rec k Q (putA ⟨n, t1, s1.h, s1.k, ⟨sv1, s1.x.y⟩⟩ d (tupA (ts.map s1.t)))
theorem mp_not {w : World} {b : Nat} {l : MpE} (h : w.heap[b]? = some (mpO l)) : ¬ IsC w b := not_isC h (fun _ _ _ => mpO_c _ _ _ _)

/-- What is kept beside the slots over a call that turned own blocks and the map alone. -/
theorem Bk.over {C : Ctx} {s : AState} {β : Bt} {a : Act} {w w' : World} (h : StR C s β a w) {m m' : Mp} (hy : C.y = some (.mp m)) {hh : List (Nat × Blk)} (hsub : ∀ b, Own β hh b → Own β s.h b) (hfr : Fr (OwnM β hh m) w w')
    (hm : ∀ b l, m' = some (b, l) → w'.heap[b]? = some (mpO l) ∧ ¬ C.F b) (hw : ∀ b l, m' = some (b, l) → w.heap.size ≤ b ∨ OwnM β hh m b) : Bk { C with y := some (.mp m') } w' a.defers := by
  have hno : ∀ (D : Nat) (o : Obj), w.heap[D]? = some o → (∀ c t q, o ≠ .cells c t q) → (∀ l, o ≠ mpO l) → w'.heap[D]? = w.heap[D]? := fun D o hD ho ho' => by
    refine hfr.block D (lt_of_get hD) ?_
    rintro (hb | ⟨l, hb⟩)
    · exact not_isC hD ho (h.own_isC (hsub _ hb))
    · have := (h.defers.mp D l (by rw [hy, hb])).1
      rw [hD] at this; exact ho' l (Option.some.inj this)
  refine ⟨fun d hd => ?_, h.defers.nd, fun l hl => ?_, fun b l hb => ?_⟩
  · obtain ⟨D, h1, h2, h3, h4⟩ := h.defers.marks d hd
    exact ⟨D, h1, (hno D _ h2 (fun _ _ _ => by simp) (fun l => by cases l <;> simp [mpO])).trans h2, h3, h4⟩
  · obtain ⟨⟨r, hr⟩, hF⟩ := h.defers.rd l hl
    exact ⟨⟨r, (hno l _ hr (fun _ _ _ => by simp) (fun l => by cases l <;> simp [mpO])).trans hr⟩, hF⟩
  · simp only [Option.some.injEq, Yl.mp.injEq] at hb
    obtain ⟨g1, g2⟩ := hm b l hb
    refine ⟨g1, ?_, g2⟩
    rcases hw b l hb with hb | ⟨p, hp, o, e, hb⟩ | ⟨l', hb⟩
    · exact .inl (Nat.le_trans h.fr.size hb)
    · obtain ⟨q, hq, o', e', hb'⟩ := hsub b ⟨p, hp, o, e, hb⟩
      exact (h.mine q hq b o' e' hb').1
    · exact (h.defers.mp b l' (by rw [hy, hb])).2.1

theorem OwnM.mine {C : Ctx} {s : AState} {β : Bt} {a : Act} {w : World} (h : StR C s β a w) {m : Mp} (hy : C.y = some (.mp m)) {hh : List (Nat × Blk)} (hsub : ∀ b, Own β hh b → Own β s.h b) {b : Nat} (hb : OwnM β hh m b) : C.W.heap.size ≤ b ∨ C.Pm b := by
  rcases hb with hb | ⟨l, hb⟩
  · obtain ⟨q, hq, o', e', hb'⟩ := hsub b hb
    exact (h.mine q hq b o' e' hb').1
  · exact (h.defers.mp b l (by rw [hy, hb])).2.1

/-- **A call whose callee's text is walked.** -/
theorem AtFn.inl {P : Program} {rec : List It → (AState → Prop) → AState → Prop} {o : Oper} {f : FuncId} {as : List AV} {k : List It} {Q : AState → Prop} {n : Nat} {t : Nat → AV} {h : List (Nat × Blk)} {kk : Nat} {sv : List (Nat → AV)} {m : Mp}
    {fn : Func} {c : Code} (n0 : Nat) (ts : List Nat) (hm : P.follows .mixedOrders = true) (hfn : P.funcs[f]? = some fn) (hname : (fn.name == "runtime.NumGoroutine") = false) (hb : fn.body = some c) (hres : fn.results.toList = ts.map ResultVar.tmp) (hlen : as.length ≤ fn.ntmps)
    (hrun : vcRun P n0 [.c c] (InlQ rec k Q o.dst n ts) ⟨fn.ntmps, slots as, h, kk, ⟨t :: sv, some (.mp m)⟩⟩) : AtFn P rec o f as k Q ⟨n, t, h, kk, ⟨sv, some (.mp m)⟩⟩ := by
  rintro ⟨fo, xs, ats, caps, ho, hf, rfl⟩ ro Cs next E hg hnext a w ⟨C, hC, β, hs⟩
  have hP := hg.prog C hC
  subst hP
  refine ⟨fun _ _ => trivial, ?_⟩
  rw [Oper.semAt_eq _ _ _ (fun c hc => by rw [ho] at hc; cases hc)]
  have hfr := hs.read fo
  rw [hf] at hfr
  generalize hv : a.eval fo = va at hfr
  have hy : C.y = some (.mp m) := hs.yy.symm
  cases hfr with
  | fn hl hR =>
    rename_i vs
    obtain ⟨ha1, ha2⟩ := args_get (fun x => hs.read x) xs
    have hrun' : (execOp a.eval o).run C.P w = .ok (.enter f (xs.map a.eval ++ vs)) w := by
      obtain ⟨_, op, _, _, _, _⟩ := o
      simp only at ho; subst ho
      have hnb : ¬ fn.body = none := by simp [hb]
      have hne : ¬ fn.name = "runtime.NumGoroutine" := by simpa using hname
      simp [execOp, resolve, hv, Deferred.ofValue, invoke, callFunc, hfn, hne, hnb]
    rw [hrun']
    refine ⟨wd_depth, callsIn_wd ?_⟩
    have hargs : ∀ (q : Nat) (x : AV) (u : Value), (xs.toList.map (evA t) ++ caps)[q]? = some x → (xs.map a.eval ++ vs)[q]? = some u → RS (XOf C.F β h) β w x u := fun q x u hx hu => by
      by_cases hq : q < (xs.toList.map (evA t)).length
      · rw [List.getElem?_append_left hq] at hx
        rw [Array.getElem?_append_left (by simpa using hq)] at hu
        exact ha2 q x u hx hu
      · rw [List.getElem?_append_right (by omega)] at hx
        rw [Array.getElem?_append_right (by simpa using hq)] at hu
        have e1 : (xs.toList.map (evA t)).length = (xs.map a.eval).size := ha1
        rw [← e1] at hu
        exact hR _ x u hx hu
    have hlen2 : (xs.toList.map (evA t) ++ caps).length = (xs.map a.eval ++ vs).size := by
      have e1 : (xs.toList.map (evA t)).length = (xs.map a.eval).size := ha1
      simp at e1 hl ⊢; omega
    let C0 : Ctx := ⟨C.P, C.F, OwnM β h m, w, (fun i => a.tmps.getD i undef) :: C.sv, some (.mp m), none⟩
    have hst : StR C0 ⟨fn.ntmps, slots (xs.toList.map (evA t) ++ caps), h, kk, ⟨t :: sv, some (.mp m)⟩⟩ β { tmps := (xs.map a.eval ++ vs) ++ Array.replicate (fn.ntmps - (xs.map a.eval ++ vs).size) undef, defers := [] } w := by
      refine ⟨⟨fun d hd => by simp at hd, List.nodup_nil, fun l hl => (by cases hl), fun b l hb => ?_⟩, by simp at hlen hlen2 ⊢; omega, fun i => slots_RS hlen2 hargs i _, hs.own, hs.lt, hs.βlt, hs.nd, hs.inj, fun p hp b o e hb => ⟨.inr (.inl ⟨p, hp, o, e, hb⟩), (hs.mine p hp b o e hb).2⟩,
        ⟨rfl, rfl, rfl, Nat.le_refl _, fun _ _ _ => rfl, fun _ _ _ h => h⟩, fun b hb => Nat.lt_of_lt_of_le (hs.Flt b hb) hs.fr.size, ⟨by have := hs.sv.1; simp only [C0, List.length_cons]; simp only at this; omega, fun j g g' hg hg' i => ?_⟩, rfl⟩
      · simp only [C0, Option.some.injEq, Yl.mp.injEq] at hb
        obtain ⟨g1, g2, g3⟩ := hs.defers.mp b l (by rw [hy, hb])
        exact ⟨g1, .inr (.inr ⟨l, hb⟩), g3⟩
      · match j with
        | 0 =>
          simp only [C0, List.getElem?_cons_zero, Option.some.injEq] at hg hg'
          subst hg; subst hg'
          exact hs.tm i
        | j + 1 => exact hs.sv.2 j g g' (by simpa using hg) (by simpa [C0] using hg') i
    suffices hcalls : Calls C.P f (xs.map a.eval ++ vs) w (fun e w' => ∃ v, e = .returned v ∧ next (a.put o.dst v) w') from Calls.mono hcalls (by rintro e w' ⟨v, rfl, hn⟩; exact hn)
    refine (callsIn_wide (n := 0)).1 (callsIn_of_wp_marks hfn hb trivial ?_)
    have hsound := vcRun_sound (P := C.P) hm n0 none (fun C' => ∃ m, C' = { C0 with y := some (.mp m) })
      (fun a1 w' => LeavesInM Fence.wide 0 C.P fn a1.tmps (fun e w' => ∃ v, e = .returned v ∧ next (a.put o.dst v) w') a1.defers .returning w') (InlQ rec k Q o.dst n ts) (GoodC.mp (C := C0) rfl)
      (fun s1 a1 w1 hQ hs1 => by
        obtain ⟨C', ⟨m', rfl⟩, β1, hs1⟩ := hs1
        refine leavesG (C := { C0 with y := some (.mp m') }) (fun a1 w1 hs1 => ?_) _ a1 w1 rfl hs1
        obtain ⟨v, h3, h4⟩ := results_tmps hs1 hres
        refine ⟨v, h3, v, rfl, ?_⟩
        unfold InlQ at hQ
        have hsv0 := hs1.sv
        cases hsv : s1.x.sv with
        | nil => rw [hsv] at hQ; exact hQ.elim
        | cons t1 sv1 =>
          rw [hsv] at hQ hsv0
          simp only at hQ
          have hyy : s1.x.y = some (.mp m') := hs1.yy
          have hfr1 : Fr (OwnM β h m) w w1 := hs1.fr
          have hfin : StR { C with y := some (.mp m') } ⟨n, t1, s1.h, s1.k, ⟨sv1, s1.x.y⟩⟩ β1 a w1 := by
            refine ⟨Bk.over hs hy (hh := h) (fun _ h => h) hfr1 (fun b l hb => ?_) (fun b l hb => ?_), hs.size, fun i => hsv0.2 0 t1 _ rfl rfl i, hs1.own, hs1.lt, hs1.βlt, hs1.nd, hs1.inj, fun p hp b o e hb => ?_,
              hs.fr.comp hfr1 (fun b hb => hb.mine hs hy (fun _ h => h)), hs.Flt, ⟨by have := hsv0.1; simp only [C0, List.length_cons] at this; simp only; omega, fun j g g' hg hg' i => hsv0.2 (j + 1) g g' (by simpa using hg) (by simpa [C0] using hg') i⟩, hyy⟩
            · obtain ⟨g1, g2, g3⟩ := hs1.defers.mp b l (by rw [hb])
              exact ⟨g1, g3⟩
            · exact (hs1.defers.mp b l (by rw [hb])).2.1
            · obtain ⟨g1, g2⟩ := hs1.mine p hp b o e hb
              refine ⟨?_, g2⟩
              rcases g1 with g1 | g1
              · exact .inl (Nat.le_trans hs.fr.size g1)
              · exact g1.mine hs hy (fun _ h => h)
          exact hnext _ _ _ hQ ⟨_, hg.mpd C m m' hC hy, β1, hfin.put h4 o.dst⟩) _ _ _ _ hrun ⟨C0, ⟨m, rfl⟩, β, hst⟩
    simp only [Kont] at hsound
    refine Code.wpIn_mono (fun e a' w' he => ?_) hsound
    cases e with
    | normal => exact he
    | ret => exact he
    | _ => exact he.elim
end Go.Eng

set_option linter.unusedSimpArgs false
set_option linter.unusedVariables false
namespace Go.Eng
open Go Go.RowKit

theorem OwnR.ren {X X' : Nat → Prop} {β β' : Bt} {w : World} {σ : Nat → Nat} {ns : List Nat} {n : Nat} {b b' : Blk} (hX : ∀ b, X' b → X b) (hβ : ∀ n ∈ ns, β' n = β (σ n)) (hn : n ∈ ns) (h : OwnR X β w (σ n) b) (he : b.e = b'.e) (hl : RenL σ ns b.l b'.l) : OwnR X' β' w n b' := by
  have hbp := hβ n hn
  rcases h with ⟨bb, o, c, ty, h1, h2, h3, h4, h5⟩ | ⟨h1, h2⟩
  · refine .inl ⟨bb, o, c, ty, by rw [hbp, ← he]; exact h1, h2, ?_, ?_, ?_⟩
    · intro ch hch
      rcases hl with ⟨hl, _⟩ | ⟨hl, hl2⟩
      · rw [← he]; exact h3 ch (hl ▸ hch)
      · obtain ⟨i, hi⟩ := List.getElem?_of_mem hch
        have hil : i < b.l.length := by have := (List.getElem?_eq_some_iff.1 hi).1; omega
        have := (hl2 i _ ch (List.getElem?_eq_getElem hil) hi).1
        rw [← he, ← this]; exact h3 _ (List.getElem_mem hil)
    · rcases hl with ⟨hl, _⟩ | ⟨hl, _⟩
      · rw [← he, ← hl]; exact h4
      · rw [← he, ← hl]; exact h4
    · intro i j ch s' hi hj
      rcases hl with ⟨hl, hcl⟩ | ⟨hl, hl2⟩
      · obtain ⟨u, hu, hr⟩ := h5 i j ch s' (hl ▸ hi) hj
        refine ⟨u, by rw [← he]; exact hu, (hr.anti hX).closed ?_ _⟩
        exact hcl ch (hl ▸ List.mem_of_getElem? hi) s' (List.mem_of_getElem? hj)
      · have hil : i < b.l.length := by have := (List.getElem?_eq_some_iff.1 hi).1; omega
        have h6 := hl2 i _ ch (List.getElem?_eq_getElem hil) hi
        have hjl : j < (b.l[i]).length := by have := (List.getElem?_eq_some_iff.1 hj).1; omega
        obtain ⟨u, hu, hr⟩ := h5 i j _ _ (List.getElem?_eq_getElem hil) (List.getElem?_eq_getElem hjl)
        exact ⟨u, by rw [← he]; exact hu, hr.ren hX hβ (h6.2 j _ s' (List.getElem?_eq_getElem hjl) hj)⟩
  · refine .inr ⟨?_, by rw [hbp]; exact h2⟩
    rcases hl with ⟨hl, _⟩ | ⟨hl, _⟩
    · rw [← hl]; exact h1
    · rw [h1] at hl; exact List.eq_nil_of_length_eq_zero hl.symm

theorem OwnR.addX {X X' : Nat → Prop} {β : Bt} {w : World} (hX : ∀ b, X' b → X b ∨ ¬ IsC w b) {n : Nat} {k : Blk} (h : OwnR X β w n k) : OwnR X' β w n k := by
  rcases h with ⟨b, o, c, t, h1, h2, h3, h4, h5⟩ | ⟨h1, h2⟩
  · refine .inl ⟨b, o, c, t, h1, h2, h3, h4, fun i j ch s hi hj => ?_⟩
    obtain ⟨u, hu, hr⟩ := h5 i j ch s hi hj
    exact ⟨u, hu, hr.addX hX⟩
  · exact .inr ⟨h1, h2⟩

theorem nodup_of_map {α : Type} {f : Nat → Nat} {g : α → Nat} {l : List α} (h : (l.map fun p => f (g p)).Nodup) : (l.map g).Nodup ∧ ∀ p ∈ l, ∀ q ∈ l, f (g p) = f (g q) → g p = g q := by
  induction l with
  | nil => exact ⟨List.nodup_nil, by simp⟩
  | cons x l ih =>
    simp only [List.map_cons, List.nodup_cons] at h ⊢
    obtain ⟨i1, i2⟩ := ih h.2
    have hx : ∀ q ∈ l, f (g x) ≠ f (g q) := fun q hq e => h.1 (by rw [e]; exact List.mem_map_of_mem (f := fun p => f (g p)) hq)
    refine ⟨⟨fun hm => ?_, i1⟩, fun p hp q hq e => ?_⟩
    · obtain ⟨q, hq, e⟩ := List.mem_map.1 hm
      exact hx q hq (by rw [e])
    · rcases List.mem_cons.1 hp with hp1 | hp1 <;> rcases List.mem_cons.1 hq with hq1 | hq1
      · rw [hp1, hq1]
      · exact absurd (hp1 ▸ e) (hx q hq1)
      · exact absurd (hq1 ▸ e).symm (hx p hp1)
      · exact i2 p hp1 q hq1 e

/-- What a call by contract asks of the caller's names. -/
structure MOk (h0 hr h1 h1' : List (Nat × Blk)) (k0 k' : Nat) (pin : List Nat) (σ : Nat → Nat) (as : List AV) (t : Nat → AV) (sv : List (Nat → AV)) (R R' : AV) : Prop where
  hk0 : ∀ p ∈ h0, p.1 < k0
  has : ∀ a ∈ as, Ren id (h0.map (·.1)) a a
  hcl0 : ∀ p ∈ h0, RenL id (h0.map (·.1)) p.2.l p.2.l
  ht : ∀ i, Ren id (pin ++ hr.map (·.1)) (t i) (t i)
  hsv : RenS id (pin ++ hr.map (·.1)) sv sv
  hhr : ∀ p ∈ hr, RenL id (pin ++ hr.map (·.1)) p.2.l p.2.l
  hpin : ∀ n ∈ pin, n ∈ h1'.map (·.1) ∧ σ n = n ∧ n ∈ h0.map (·.1)
  h1r : ∀ p ∈ h1', ∃ b, find h1 (σ p.1) = some b ∧ b.e = p.2.e ∧ RenL σ (h1'.map (·.1)) b.l p.2.l
  hR : Ren σ (h1'.map (·.1)) R R'
  hnd : (h1'.map fun p => σ p.1).Nodup
  hdis : ∀ p ∈ h1', p.1 ∉ hr.map (·.1)
  hlt : ∀ p ∈ h1' ++ hr, p.1 < k'

/-- **A call of a function that writes.** -/
theorem AtFn.m' {P : Program} {rec : List It → (AState → Prop) → AState → Prop} {o : Oper} {f : FuncId} {as : List AV} {k : List It} {Q : AState → Prop} {n : Nat} {t : Nat → AV} {h0 hr : List (Nat × Blk)} {kk : Nat} {sv : List (Nat → AV)} {m0 : Mp}
    {k0 k1 k' : Nat} {pin : List Nat} {R R' : AV} {h1 h1' : List (Nat × Blk)} {m1 : Mp} (σ : Nat → Nat) (hfun : MFun P f as h0 k0 m0 pin R h1 k1 m1) (hok : MOk h0 hr h1 h1' k0 k' pin σ as t sv R R')
    (hk : rec k Q (putA ⟨n, t, h1' ++ hr, k', ⟨sv, some (.mp m1)⟩⟩ o.dst R')) : AtFn P rec o f as k Q ⟨n, t, h0 ++ hr, kk, ⟨sv, some (.mp m0)⟩⟩ := by
  rintro ⟨fo, xs, ats, caps, ho, hf, rfl⟩ ro Cs next E hg hnext a w ⟨C, hC, β, hs⟩
  have hP := hg.prog C hC
  subst hP
  refine ⟨fun _ _ => trivial, ?_⟩
  rw [Oper.semAt_eq _ _ _ (fun c hc => by rw [ho] at hc; cases hc)]
  obtain ⟨⟨fn, hfn, hname, hbody⟩, hcall⟩ := hfun
  have hfr := hs.read fo
  rw [hf] at hfr
  generalize hv : a.eval fo = va at hfr
  have hy : C.y = some (.mp m0) := hs.yy.symm
  cases hfr with
  | fn hl hR =>
    rename_i vs
    obtain ⟨ha1, ha2⟩ := args_get (fun x => hs.read x) xs
    have hrun' : (execOp a.eval o).run C.P w = .ok (.enter f (xs.map a.eval ++ vs)) w := by
      obtain ⟨_, op, _, _, _, _⟩ := o
      simp only at ho; subst ho
      have hnb : ¬ fn.body = none := by cases hb : fn.body <;> simp_all
      have hne : ¬ fn.name = "runtime.NumGoroutine" := by simpa using hname
      simp [execOp, resolve, hv, Deferred.ofValue, invoke, callFunc, hfn, hne, hnb]
    rw [hrun']
    refine ⟨wd_depth, callsIn_wd ?_⟩
    have hargs : ∀ (q : Nat) (x : AV) (u : Value), (xs.toList.map (evA t) ++ caps)[q]? = some x → (xs.map a.eval ++ vs)[q]? = some u → RS (XOf C.F β (h0 ++ hr)) β w x u := fun q x u hx hu => by
      by_cases hq : q < (xs.toList.map (evA t)).length
      · rw [List.getElem?_append_left hq] at hx
        rw [Array.getElem?_append_left (by simpa using hq)] at hu
        exact ha2 q x u hx hu
      · rw [List.getElem?_append_right (by omega)] at hx
        rw [Array.getElem?_append_right (by simpa using hq)] at hu
        have e1 : (xs.toList.map (evA t)).length = (xs.map a.eval).size := ha1
        rw [← e1] at hu
        exact hR _ x u hx hu
    have hlen2 : (xs.toList.map (evA t) ++ caps).length = (xs.map a.eval ++ vs).size := by
      have e1 : (xs.toList.map (evA t)).length = (xs.map a.eval).size := ha1
      simp at e1 hl ⊢; omega
    -- names
    have hnd := hs.nd
    simp only [List.map_append] at hnd
    have hdis0 : ∀ q, q ∈ h0.map (·.1) → q ∉ hr.map (·.1) := fun q h1 h2 => by
      rw [List.nodup_append] at hnd
      exact hnd.2.2 q h1 q h2 rfl
    have hsub0 : ∀ b, Own β h0 b → Own β (h0 ++ hr) b := fun b ⟨p, hp, r⟩ => ⟨p, List.mem_append_left _ hp, r⟩
    have hsubr : ∀ b, Own β hr b → Own β (h0 ++ hr) b := fun b ⟨p, hp, r⟩ => ⟨p, List.mem_append_right _ hp, r⟩
    have hsplit : ∀ b, Own β (h0 ++ hr) b → Own β h0 b ∨ Own β hr b := fun b ⟨p, hp, r⟩ => (List.mem_append.1 hp).imp (fun h => ⟨p, h, r⟩) (fun h => ⟨p, h, r⟩)
    have hapart : ∀ b, Own β h0 b → ¬ Own β hr b := by
      rintro b ⟨p, hp, o1, e1, h1⟩ ⟨q, hq, o2, e2, h2⟩
      have := hs.inj p (List.mem_append_left _ hp) q (List.mem_append_right _ hq) b o1 e1 o2 e2 h1 h2
      exact hdis0 p.1 (List.mem_map_of_mem hp) (this ▸ List.mem_map_of_mem hq)
    have hmine : ∀ b, Own β (h0 ++ hr) b → (C.W.heap.size ≤ b ∨ C.Pm b) ∧ ¬ C.F b := fun b ⟨p, hp, o, e, hb⟩ => hs.mine p hp b o e hb
    let β0 : Bt := fun q => if q ∈ h0.map (·.1) then β q else none
    let X : Nat → Prop := fun b => C.F b ∨ Own β hr b
    have hβ0 : ∀ q ∈ h0.map (·.1), β0 q = β (id q) := fun q hq => by simp only [β0, id]; rw [if_pos hq]
    have hown0 : ∀ b, Own β0 h0 b ↔ Own β h0 b := fun b => by
      constructor
      · rintro ⟨p, hp, o, e, hb⟩; rw [hβ0 _ (List.mem_map_of_mem hp)] at hb; exact ⟨p, hp, o, e, hb⟩
      · rintro ⟨p, hp, o, e, hb⟩; exact ⟨p, hp, o, e, by rw [hβ0 _ (List.mem_map_of_mem hp)]; exact hb⟩
    have hownM : ∀ b, OwnM β0 h0 m0 b ↔ OwnM β h0 m0 b := fun b => by unfold OwnM; rw [hown0]
    have hX0 : ∀ b, XOf X β0 h0 b → XOf C.F β (h0 ++ hr) b := by
      rintro b ((hb | hb) | hb)
      · exact .inl hb
      · exact .inr (hsubr b hb)
      · exact .inr (hsub0 b ((hown0 b).1 hb))
    have hXlt : ∀ b, X b → b < w.heap.size := by
      rintro b (hb | hb)
      · exact Nat.lt_of_lt_of_le (hs.Flt b hb) hs.fr.size
      · exact (hs.own_isC (hsubr b hb)).lt
    have hHp : Hp X β0 h0 k0 w := by
      refine ⟨fun p hp => ?_, hok.hk0, fun q r hq => ?_, ?_, fun p hp q hq b o e o' e' h1 h2 => ?_, fun p hp b o e hb => ?_⟩
      · exact (hs.own p (List.mem_append_left _ hp)).ren (σ := id) hX0 hβ0 (List.mem_map_of_mem hp) rfl (hok.hcl0 p hp)
      · simp only [β0] at hq
        split at hq
        · rename_i hm
          obtain ⟨p, hp, rfl⟩ := List.mem_map.1 hm
          exact hok.hk0 p hp
        · cases hq
      · exact (List.nodup_append.1 hnd).1
      · rw [hβ0 _ (List.mem_map_of_mem hp)] at h1
        rw [hβ0 _ (List.mem_map_of_mem hq)] at h2
        exact hs.inj p (List.mem_append_left _ hp) q (List.mem_append_left _ hq) b o e o' e' h1 h2
      · rw [hβ0 _ (List.mem_map_of_mem hp)] at hb
        rintro (hF | hF)
        · exact (hmine b (hsub0 b ⟨p, hp, o, e, hb⟩)).2 hF
        · exact hapart b ⟨p, hp, o, e, hb⟩ hF
    have hMp : MpW X w m0 := fun b l hb => by
      obtain ⟨g1, g2, g3⟩ := hs.defers.mp b l (by rw [hy, hb])
      refine ⟨g1, ?_⟩
      rintro (hF | hF)
      · exact g3 hF
      · exact mp_not g1 (hs.own_isC (hsubr b hF))
    refine Calls.mono (hcall X β0 w (xs.map a.eval ++ vs) hXlt hHp hMp hlen2 (fun q x u hx hu => (hargs q x u hx hu).ren (σ := id) hX0 hβ0 (hok.has x (List.mem_of_getElem? hx)))) ?_
    rintro e w' ⟨v, β', rfl, hpin, hH1, hM1, hRv, hfr1, hnew⟩
    -- behind it
    have hfr2 : Fr (OwnM β h0 m0) w w' := ⟨hfr1.os, hfr1.tape, hfr1.output, hfr1.size, fun b hb hn => hfr1.block b hb (fun h => hn ((hownM b).1 h)), hfr1.shape⟩
    have hnew2 : ∀ b, OwnM β' h1 m1 b → w.heap.size ≤ b ∨ OwnM β h0 m0 b := fun b hb => (hnew b hb).imp_right (hownM b).1
    obtain ⟨hnd1, hinj1⟩ := nodup_of_map (g := fun p : Nat × Blk => p.1) hok.hnd
    let β2 : Bt := fun q => if q ∈ h1'.map (·.1) then β' (σ q) else if q ∈ hr.map (·.1) then β q else none
    have hβ2 : ∀ q ∈ h1'.map (·.1), β2 q = β' (σ q) := fun q hq => by simp only [β2]; rw [if_pos hq]
    have hβr : ∀ q ∈ hr.map (·.1), β2 q = β q := fun q hq => by
      have : q ∉ h1'.map (·.1) := fun hm => by
        obtain ⟨p, hp, rfl⟩ := List.mem_map.1 hm
        exact hok.hdis p hp hq
      simp only [β2]; rw [if_neg this, if_pos hq]
    have hf1 : ∀ p ∈ h1', ∃ b, (σ p.1, b) ∈ h1 := fun p hp => by
      obtain ⟨b, hb, _⟩ := hok.h1r p hp
      exact ⟨b, find_mem hb⟩
    have hown1 : ∀ b, Own β2 h1' b → Own β' h1 b := by
      rintro b ⟨p, hp, o, e, hb⟩
      rw [hβ2 _ (List.mem_map_of_mem hp)] at hb
      obtain ⟨bb, hm⟩ := hf1 p hp
      exact ⟨_, hm, o, e, hb⟩
    have hownr : ∀ b, Own β2 hr b → Own β hr b := by
      rintro b ⟨p, hp, o, e, hb⟩
      rw [hβr _ (List.mem_map_of_mem hp)] at hb
      exact ⟨p, hp, o, e, hb⟩
    have hsplit2 : ∀ b, Own β2 (h1' ++ hr) b → Own β' h1 b ∨ Own β hr b := fun b ⟨p, hp, r⟩ => (List.mem_append.1 hp).imp (fun h => hown1 b ⟨p, h, r⟩) (fun h => hownr b ⟨p, h, r⟩)
    have hX1 : ∀ b, XOf C.F β2 (h1' ++ hr) b → XOf X β' h1 b := by
      rintro b (hb | hb)
      · exact .inl (.inl hb)
      · rcases hsplit2 b hb with hb | hb
        · exact .inr hb
        · exact .inl (.inr hb)
    have hmine1 : ∀ b, Own β' h1 b → (C.W.heap.size ≤ b ∨ C.Pm b) ∧ ¬ X b := fun b hb => by
      refine ⟨?_, ?_⟩
      · rcases hnew2 b (.inl hb) with h | h
        · exact .inl (Nat.le_trans hs.fr.size h)
        · exact h.mine hs hy hsub0
      · obtain ⟨p, hp, o, e, hb⟩ := hb
        exact hH1.off p hp b o e hb
    -- what was known before
    let X2 : Nat → Prop := fun b => XOf C.F β (h0 ++ hr) b ∨ ¬ IsC w b
    let βm : Bt := fun q => if q ∈ pin ++ hr.map (·.1) then β q else none
    have hβm : ∀ q ∈ pin ++ hr.map (·.1), βm q = β (id q) := fun q hq => by simp only [βm, id]; rw [if_pos hq]
    have hmono : Mono X2 βm w (XOf C.F β2 (h1' ++ hr)) β2 w' := by
      refine ⟨fun b hb hn => ?_, fun q r hq => ?_, hfr2.size, fun b hb hn => hfr2.block b hb ?_, hfr2.shape⟩
      · rcases hb with hb | hb
        · exact absurd (.inl (.inl hb)) hn
        · rcases hsplit2 b hb with hb | hb
          · rcases hnew2 b (.inl hb) with h | h | ⟨l, h⟩
            · exact h
            · exact absurd (.inl (.inr (hsub0 b h))) hn
            · exact absurd (.inr (mp_not (hMp b l h).1)) hn
          · exact absurd (.inl (.inr (hsubr b hb))) hn
      · simp only [βm] at hq
        split at hq
        · rename_i hm
          rcases List.mem_append.1 hm with hm | hm
          · obtain ⟨g1, g2, g3⟩ := hok.hpin q hm
            rw [hβ2 q g1, g2, hpin q hm, hβ0 q g3]; exact hq
          · rw [hβr q hm]; exact hq
        · cases hq
      · rintro (h | ⟨l, h⟩)
        · exact hn (.inl (.inr (hsub0 b h)))
        · exact hn (.inr (mp_not (hMp b l h).1))
    have hold : ∀ x u, Ren id (pin ++ hr.map (·.1)) x x → RS (XOf C.F β (h0 ++ hr)) β w x u → RS (XOf C.F β2 (h1' ++ hr)) β2 w' x u := fun x u hx hu =>
      ((hu.ren (X' := XOf C.F β (h0 ++ hr)) (σ := id) (fun _ h => h) hβm hx).addX (X' := X2) (fun b hb => hb)).mono hmono
    have hfin : StR { C with y := some (.mp m1) } ⟨n, t, h1' ++ hr, k', ⟨sv, some (.mp m1)⟩⟩ β2 a w' := by
      refine ⟨Bk.over hs hy (hh := h0) hsub0 hfr2 (fun b l hb => ⟨(hM1 b l hb).1, fun hF => (hM1 b l hb).2 (.inl hF)⟩) (fun b l hb => hnew2 b (.inr ⟨l, hb⟩)), hs.size, fun i => hold _ _ (hok.ht i) (hs.tm i), fun p hp => ?_, hok.hlt, fun q r hq => ?_, ?_, fun p hp q hq b o e o' e' g1 g2 => ?_, fun p hp b o e hb => ?_,
        hs.fr.comp hfr2 (fun b hb => hb.mine hs hy hsub0), hs.Flt, ⟨hs.sv.1, fun j g g' hg hg' i => ?_⟩, rfl⟩
      · rcases List.mem_append.1 hp with hp | hp
        · obtain ⟨b, h2, h3, h4⟩ := hok.h1r p hp
          exact (hH1.own _ (find_mem h2)).ren hX1 hβ2 (List.mem_map_of_mem hp) h3 h4
        · have g1 := ((hs.own p (List.mem_append_right _ hp)).ren (X' := XOf C.F β (h0 ++ hr)) (σ := id) (fun _ h => h) hβm (List.mem_append_right _ (List.mem_map_of_mem hp)) rfl (hok.hhr p hp)).addX (X' := X2) (fun b hb => hb)
          refine g1.mono hmono (fun b o e hb => ?_) (fun hn => ?_)
          · rw [hβm _ (List.mem_append_right _ (List.mem_map_of_mem hp))] at hb
            have hor : Own β hr b := ⟨p, hp, o, e, hb⟩
            have hisC := hs.own_isC (hsubr b hor)
            refine hfr2.block b hisC.lt ?_
            rintro (h | ⟨l, h⟩)
            · exact hapart b h hor
            · exact mp_not (hMp b l h).1 hisC
          · rw [hβm _ (List.mem_append_right _ (List.mem_map_of_mem hp))] at hn
            rw [hβr _ (List.mem_map_of_mem hp)]; exact hn
      · simp only [β2] at hq
        split at hq
        · rename_i hm
          obtain ⟨p, hp, rfl⟩ := List.mem_map.1 hm
          exact hok.hlt p (List.mem_append_left _ hp)
        · split at hq
          · rename_i hm
            obtain ⟨p, hp, rfl⟩ := List.mem_map.1 hm
            exact hok.hlt p (List.mem_append_right _ hp)
          · cases hq
      · simp only [List.map_append]
        rw [List.nodup_append]
        refine ⟨hnd1, (List.nodup_append.1 hnd).2.1, fun q hq q' hq' e => ?_⟩
        subst e
        obtain ⟨p, hp, rfl⟩ := List.mem_map.1 hq
        exact hok.hdis p hp hq'
      · rcases List.mem_append.1 hp with hp | hp <;> rcases List.mem_append.1 hq with hq | hq
        · rw [hβ2 _ (List.mem_map_of_mem hp)] at g1
          rw [hβ2 _ (List.mem_map_of_mem hq)] at g2
          obtain ⟨b1, hb1⟩ := hf1 p hp
          obtain ⟨b2, hb2⟩ := hf1 q hq
          exact hinj1 p hp q hq (hH1.inj _ hb1 _ hb2 b o e o' e' g1 g2)
        · exact absurd (.inr (hownr b ⟨q, hq, o', e', g2⟩)) (hmine1 b (hown1 b ⟨p, hp, o, e, g1⟩)).2
        · exact absurd (.inr (hownr b ⟨p, hp, o, e, g1⟩)) (hmine1 b (hown1 b ⟨q, hq, o', e', g2⟩)).2
        · rw [hβr _ (List.mem_map_of_mem hp)] at g1
          rw [hβr _ (List.mem_map_of_mem hq)] at g2
          exact hs.inj p (List.mem_append_right _ hp) q (List.mem_append_right _ hq) b o e o' e' g1 g2
      · rcases hsplit2 b ⟨p, hp, o, e, hb⟩ with hb | hb
        · exact ⟨(hmine1 b hb).1, fun hF => (hmine1 b hb).2 (.inl hF)⟩
        · exact hmine b (hsubr b hb)
      · exact hold _ _ (hok.hsv.2 j g g hg hg i) (hs.sv.2 j g g' hg hg' i)
    have hRv2 : RS (XOf C.F β2 (h1' ++ hr)) β2 w' R' v := hRv.ren hX1 hβ2 hok.hR
    exact hnext _ _ _ hk ⟨_, hg.mpd C m0 m1 hC hy, β2, hfin.put hRv2 o.dst⟩
end Go.Eng

set_option linter.unusedSimpArgs false
set_option linter.unusedVariables false
namespace Go.Eng
open Go Go.RowKit

theorem g2_inv {X : Nat → Prop} {β : Bt} {w : World} {a b u : Value} (h : RS X β w (.g [.v a, .v b]) u) : u = .agg #[a, b] := by
  cases h with
  | g hl hR =>
    rename_i cs
    have h0 : 0 < cs.size := by simp at hl; omega
    have h1 : 1 < cs.size := by simp at hl; omega
    have r0 := hR 0 _ cs[0] rfl (Array.getElem?_eq_getElem h0)
    have r1 := hR 1 _ cs[1] rfl (Array.getElem?_eq_getElem h1)
    cases hc0 : cs[0]
    all_goals (
      rw [hc0] at r0
      cases r0
      generalize hc1 : cs[1] = x1 at r1
      cases r1
      congr 1
      apply Array.ext
      · simpa using hl.symm
      · intro i hi1 hi2
        have : i = 0 ∨ i = 1 := by simp at hl; omega
        rcases this with rfl | rfl
        · simpa using hc0
        · simpa using hc1)

section
variable {P : Program} {rec : List It → (AState → Prop) → AState → Prop} {o : Oper} {k : List It} {Q : AState → Prop} {n : Nat} {t : Nat → AV} {h : List (Nat × Blk)} {kk : Nat} {sv : List (Nat → AV)}

/-- The map is asked. -/
theorem AtOp.look {mt : TypeId} {x i : Operand} {b : Nat} {l : MpE} {k1 k2 v : Value} {ok : Bool} (ho : o.op = .lookup mt x i true) (hx : evA t x = .v (.map (some b))) (hi : evA t i = .g [.v k1, .v k2])
    (hl : ∀ w : World, w.heap[b]? = some (mpO l) → (Instr.lookup mt (.map (some b)) (.agg #[k1, k2]) true).run P w = .ok (.tuple #[v, .bool ok]) w)
    (hk : force (putA ⟨n, t, h, kk, ⟨sv, some (.mp (some (b, l)))⟩⟩ o.dst (.t [.v v, .v (.bool ok)])) fun s' => rec k Q s') : AtOp P rec o k Q ⟨n, t, h, kk, ⟨sv, some (.mp (some (b, l)))⟩⟩ := by
  intro ro Cs next E hg hnext a w ⟨C, hC, β, hs⟩
  have hP := hg.prog C hC
  subst hP
  refine ⟨fun _ _ => trivial, ?_⟩
  rw [Oper.semAt_eq _ _ _ (fun c hc => by rw [ho] at hc; cases hc)]
  have hy : C.y = some (.mp (some (b, l))) := hs.yy.symm
  have rx := hs.read x
  have ri := hs.read i
  simp only [hx] at rx
  simp only [hi] at ri
  have e1 : a.eval x = .map (some b) := by cases hh : a.eval x <;> rw [hh] at rx <;> cases rx; rfl
  have e2 := g2_inv ri
  have hrun : (execOp a.eval o).run C.P w = .ok (.value (.tuple #[v, .bool ok])) w := by
    obtain ⟨_, op, _, _, _, _⟩ := o
    simp only at ho; subst ho
    simp only [execOp, e1, e2, Sem.run_bind, hl w (hs.defers.mp b l hy).1, Result.andThen_ok, Sem.run_pure]
  rw [hrun]
  refine hnext _ _ _ hk ⟨C, hC, β, hs.put (.t rfl fun q s u hq hu => ?_) o.dst⟩
  match q with
  | 0 => simp at hq hu; subst hq; subst hu; exact .v _
  | 1 => simp at hq hu; subst hq; subst hu; exact .v _
  | q + 2 => simp at hq

/-- The map is written. -/
theorem AtOp.upd {mt : TypeId} {x i y : Operand} {b : Nat} {l l' : MpE} {k1 k2 v : Value} (ho : o.op = .mapUpdate mt x i y) (hd : o.dst = none) (hx : evA t x = .v (.map (some b))) (hi : evA t i = .g [.v k1, .v k2]) (hyv : evA t y = .v v)
    (hl : ∀ w : World, w.heap[b]? = some (mpO l) → (Instr.mapUpdate mt (.map (some b)) (.agg #[k1, k2]) v).run P w = .ok () { w with heap := w.heap.setIfInBounds b (mpO l') })
    (hk : rec k Q ⟨n, t, h, kk, ⟨sv, some (.mp (some (b, l')))⟩⟩) : AtOp P rec o k Q ⟨n, t, h, kk, ⟨sv, some (.mp (some (b, l)))⟩⟩ := by
  intro ro Cs next E hg hnext a w ⟨C, hC, β, hs⟩
  have hP := hg.prog C hC
  subst hP
  refine ⟨fun _ _ => trivial, ?_⟩
  rw [Oper.semAt_eq _ _ _ (fun c hc => by rw [ho] at hc; cases hc)]
  have hy : C.y = some (.mp (some (b, l))) := hs.yy.symm
  have rx := hs.read x
  have ri := hs.read i
  have ry := hs.read y
  simp only [hx] at rx
  simp only [hi] at ri
  simp only [hyv] at ry
  have e1 : a.eval x = .map (some b) := by cases hh : a.eval x <;> rw [hh] at rx <;> cases rx; rfl
  have e2 := g2_inv ri
  have e3 : a.eval y = v := by cases hh : a.eval y <;> rw [hh] at ry <;> cases ry <;> rfl
  obtain ⟨g1, g2, g3⟩ := hs.defers.mp b l hy
  have hrun : (execOp a.eval o).run C.P w = .ok .skip (w.putObj b (mpO l')) := by
    obtain ⟨_, op, _, _, _, _⟩ := o
    simp only at ho; subst ho
    simp only [execOp, e1, e2, e3, Sem.run_bind, hl w g1, Result.andThen_ok, Sem.run_pure, World.putObj]
  rw [hrun]
  have hno : ∀ c t q, mpO l ≠ .cells c t q := fun _ _ _ => mpO_c _ _ _ _
  have hoff := off_put (o' := mpO l') g1 hno
  have hfr : Fr C.Pm C.W (w.putObj b (mpO l')) := hs.fr.put g1 hno g2
  have hne : ∀ (D : Nat) (ob : Obj), w.heap[D]? = some ob → (∀ l, ob ≠ mpO l) → (w.putObj b (mpO l')).heap[D]? = some ob := fun D ob hD hn => by
    rw [World.putObj_heap_other]
    · exact hD
    · intro e; subst e; rw [g1] at hD; exact hn l (Option.some.inj hD).symm
  have hfin : StR { C with y := some (.mp (some (b, l'))) } ⟨n, t, h, kk, ⟨sv, some (.mp (some (b, l')))⟩⟩ β a (w.putObj b (mpO l')) := by
    refine hs.conv (C' := { C with y := some (.mp (some (b, l'))) }) (fun x u hr => hr.off hoff) (fun q hq => hoff q (hs.own_isC hq)) ⟨fun d hd => ?_, hs.defers.nd, fun q hq => ?_, fun b' l'' hb => ?_⟩ hs.size (fun i => (hs.tm i).off hoff) (fun q ⟨p, hp, o, e, hq⟩ => hs.mine p hp q o e hq) hfr hs.Flt ⟨hs.sv.1, fun j f g hf hg i => (hs.sv.2 j f g hf hg i).off hoff⟩ rfl
    · obtain ⟨D, h1, h2, h3, h4⟩ := hs.defers.marks d hd
      exact ⟨D, h1, hne D _ h2 (fun l => by cases l <;> simp [mpO]), h3, h4⟩
    · obtain ⟨⟨r, hr⟩, hF⟩ := hs.defers.rd q hq
      exact ⟨⟨r, hne q _ hr (fun l => by cases l <;> simp [mpO])⟩, hF⟩
    · simp only [Option.some.injEq, Yl.mp.injEq, Prod.mk.injEq] at hb
      obtain ⟨rfl, rfl⟩ := hb
      exact ⟨World.putObj_heap_same (lt_of_get g1), g2, g3⟩
  have hfin2 := hfin
  refine hnext _ _ _ hk ⟨_, hg.mpd C _ (some (b, l')) hC hy, β, ?_⟩
  try rw [hd]
  exact hfin2
end
end Go.Eng

set_option linter.unusedSimpArgs false
set_option linter.unusedVariables false
namespace Go.Eng
open Go Go.RowKit

/-- A call by contract where no blocks are handed over: the map alone may turn. -/
theorem AtFn.m0c {P : Program} {rec : List It → (AState → Prop) → AState → Prop} {o : Oper} {f : FuncId} {as as' : List AV} {k : List It} {Q : AState → Prop} {n : Nat} {t : Nat → AV} {h : List (Nat × Blk)} {kk : Nat} {sv : List (Nat → AV)} {m0 m1 : Mp}
    {k0 k1 : Nat} {R : AV} {ns : List Nat} (hlen : as'.length = as.length) (harg : ∀ (C : Ctx) (β : Bt) (a : Act) (w : World), StR C ⟨n, t, h, kk, ⟨sv, some (.mp m0)⟩⟩ β a w → ∀ (q : Nat) (x x' : AV) (u : Value), as[q]? = some x → as'[q]? = some x' → RS (XOf C.F β h) β w x u → RS (XOf C.F β (dropN ns h)) B0 w x' u)
    (hfun : MFun P f as' [] k0 m0 [] R [] k1 m1) (hclR : Cl R)
    (hk : rec k Q (putA ⟨n, t, dropN ns h, kk, ⟨sv, some (.mp m1)⟩⟩ o.dst R)) : AtFn P rec o f as k Q ⟨n, t, h, kk, ⟨sv, some (.mp m0)⟩⟩ := by
  rintro ⟨fo, xs, ats, caps, ho, hf, rfl⟩ ro Cs next E hg hnext a w ⟨C, hC, β, hs⟩
  have hP := hg.prog C hC
  subst hP
  refine ⟨fun _ _ => trivial, ?_⟩
  rw [Oper.semAt_eq _ _ _ (fun c hc => by rw [ho] at hc; cases hc)]
  obtain ⟨⟨fn, hfn, hname, hbody⟩, hcall⟩ := hfun
  have hfr := hs.read fo
  rw [hf] at hfr
  generalize hv : a.eval fo = va at hfr
  have hy : C.y = some (.mp m0) := hs.yy.symm
  cases hfr with
  | fn hl hR =>
    rename_i vs
    have hd := hs.drop ns
    obtain ⟨ha1, ha2⟩ := args_get (fun x => hs.read x) xs
    have hrun : (execOp a.eval o).run C.P w = .ok (.enter f (xs.map a.eval ++ vs)) w := by
      obtain ⟨_, op, _, _, _, _⟩ := o
      simp only at ho; subst ho
      have hnb : ¬ fn.body = none := by cases hb : fn.body <;> simp_all
      have hne : ¬ fn.name = "runtime.NumGoroutine" := by simpa using hname
      simp [execOp, resolve, hv, Deferred.ofValue, invoke, callFunc, hfn, hne, hnb]
    rw [hrun]
    refine ⟨wd_depth, callsIn_wd ?_⟩
    have e1 : (xs.toList.map (evA t)).length = (xs.map a.eval).size := ha1
    let X : Nat → Prop := XOf C.F β (dropN ns h)
    have hX : ∀ b, X b → b < w.heap.size := by
      rintro b (hb | ⟨p, hp, o', e, hb⟩)
      · exact Nat.lt_of_lt_of_le (hs.Flt b hb) hs.fr.size
      · exact hs.lt_size (mem_dropN.1 hp).1 hb
    have hX0 : XOf X B0 [] = X := by
      funext b; apply propext
      exact ⟨fun hb => hb.elim id (fun ⟨p, hp, _⟩ => by simp at hp), .inl⟩
    have hHp : Hp X B0 [] k0 w := ⟨by simp, by simp, fun n r hr => by simp [B0] at hr, List.nodup_nil, by simp, by simp⟩
    have hMp : MpW X w m0 := fun b l hb => by
      obtain ⟨g1, g2, g3⟩ := hs.defers.mp b l (by rw [hy, hb])
      refine ⟨g1, ?_⟩
      rintro (hF | hF)
      · exact g3 hF
      · exact mp_not g1 (hd.own_isC hF)
    refine Calls.mono (hcall X B0 w (xs.map a.eval ++ vs) hX hHp hMp (by rw [hlen]; simp at e1 hl ⊢; omega) (fun q x' u hx' hu => ?_)) ?_
    · rw [hX0]
      have hql : q < (xs.toList.map (evA t) ++ caps).length := (by have h9 := (List.getElem?_eq_some_iff.1 hx').1; rw [hlen] at h9; exact h9)
      obtain ⟨x, hx⟩ : ∃ x, (xs.toList.map (evA t) ++ caps)[q]? = some x := ⟨_, List.getElem?_eq_getElem hql⟩
      have hrs : RS (XOf C.F β h) β w x u := by
        by_cases hq : q < (xs.toList.map (evA t)).length
        · rw [List.getElem?_append_left hq] at hx
          rw [Array.getElem?_append_left (by omega)] at hu
          exact ha2 q x u hx hu
        · rw [List.getElem?_append_right (by omega)] at hx
          rw [Array.getElem?_append_right (by omega)] at hu
          rw [← e1] at hu
          exact hR _ x u hx hu
      exact harg C β a w hs q x x' u hx hx' hrs
    · rintro e w' ⟨v, β', rfl, _, _, hM1, hRv, hfr1, hnew⟩
      have hown0 : ∀ b, Own B0 [] b → Own β (dropN ns h) b := fun b ⟨p, hp, _⟩ => by simp at hp
      have hisM : ∀ b, OwnM B0 [] m0 b → ¬ IsC w b := by
        rintro b (⟨p, hp, _⟩ | ⟨l, hb⟩)
        · simp at hp
        · exact mp_not (hMp b l hb).1
      let X2 : Nat → Prop := fun b => X b ∨ ¬ IsC w b
      have hmono : Mono X2 β w X β w' := ⟨fun b hb hn => absurd (.inl hb) hn, fun _ _ h => h, hfr1.size, fun b hb hn => hfr1.block b hb (fun h => hn (.inr (hisM b h))), hfr1.shape⟩
      have hold : ∀ x u, RS X β w x u → RS X β w' x u := fun x u hx => (hx.addX (X' := X2) (fun b hb => hb)).mono hmono
      have hRv' : RS X β w' R v := by
        have := (hRv.closed hclR β).anti (X' := X) (fun b hb => .inl hb)
        exact this
      have hOM : ∀ b, OwnM B0 [] m0 b → C.W.heap.size ≤ b ∨ C.Pm b := by
        rintro b (⟨p, hp, _⟩ | ⟨l, hb⟩)
        · simp at hp
        · exact (hs.defers.mp b l (by rw [hy, hb])).2.1
      have hst : StR { C with y := some (.mp m1) } ⟨n, t, dropN ns h, kk, ⟨sv, some (.mp m1)⟩⟩ β a w' := by
        refine hd.conv (C' := { C with y := some (.mp m1) }) hold (fun b hb => ?_) ⟨fun d hdd => ?_, hs.defers.nd, fun q hq => ?_, fun b l hb => ?_⟩ hs.size (fun i => hold _ _ (hd.tm i)) (fun b ⟨p, hp, o, e, hb⟩ => hd.mine p hp b o e hb) (hs.fr.comp hfr1 hOM) hs.Flt ⟨hd.sv.1, fun j f g hf hg i => hold _ _ (hd.sv.2 j f g hf hg i)⟩ rfl
        · have := hd.own_isC hb
          exact hfr1.block b this.lt (fun h => hisM b h this)
        · obtain ⟨D, h1, h2, h3, h4⟩ := hs.defers.marks d hdd
          refine ⟨D, h1, (hfr1.block D (lt_of_get h2) ?_).trans h2, h3, h4⟩
          rintro (⟨p, hp, _⟩ | ⟨l, hb⟩)
          · simp at hp
          · have := (hMp D l hb).1; rw [h2] at this; cases l <;> simp [mpO] at this
        · obtain ⟨⟨r, hr⟩, hF⟩ := hs.defers.rd q hq
          refine ⟨⟨r, (hfr1.block q (lt_of_get hr) ?_).trans hr⟩, hF⟩
          rintro (⟨p, hp, _⟩ | ⟨l, hb⟩)
          · simp at hp
          · have := (hMp q l hb).1; rw [hr] at this; cases l <;> simp [mpO] at this
        · simp only [Option.some.injEq, Yl.mp.injEq] at hb
          obtain ⟨g1, g2⟩ := hM1 b l hb
          refine ⟨g1, ?_, fun hF => g2 (.inl hF)⟩
          rcases hnew b (.inr ⟨l, hb⟩) with h | h
          · exact .inl (Nat.le_trans hs.fr.size h)
          · exact hOM b h
      exact hnext _ _ _ hk ⟨_, hg.mpd C m0 m1 hC hy, β, hst.put hRv' o.dst⟩

section
variable {P : Program} {rec : List It → (AState → Prop) → AState → Prop} {o : Oper} {f : FuncId} {as : List AV} {k : List It} {Q : AState → Prop} {n : Nat} {t : Nat → AV} {kk : Nat} {sv : List (Nat → AV)}
/-- The same, where the arguments are closed. -/
theorem AtFn.m0 {h : List (Nat × Blk)} {m0 m1 : Mp} {k0 k1 : Nat} {R : AV} (hfun : MFun P f as [] k0 m0 [] R [] k1 m1) (hcl : ∀ a ∈ as, Cl a) (hclR : Cl R)
    (hk : force (putA ⟨n, t, h, kk, ⟨sv, some (.mp m1)⟩⟩ o.dst R) fun s' => rec k Q s') : AtFn P rec o f as k Q ⟨n, t, h, kk, ⟨sv, some (.mp m0)⟩⟩ := by
  have hdn : dropN [] h = h := by simp [dropN]
  refine AtFn.m0c (ns := []) rfl (fun C β a w hs q x x' u hx hx' hr => ?_) hfun hclR (by rw [hdn]; exact hk)
  rw [hx] at hx'; cases hx'
  rw [hdn]
  exact hr.closed (hcl _ (List.mem_of_getElem? hx)) B0
end

theorem FinM.nil {args : List AV} {t0 : Nat} {R : AV} {m1 : Mp} {n : Nat} {t : Nat → AV} {h : List (Nat × Blk)} {k : Nat} {f : Nat → AV} (hR : t t0 = R) (hcl : Cl R) : FinM args [] [t0] [] R [] 0 m1 ⟨n, t, h, k, ⟨[f], some (.mp m1)⟩⟩ := by
  refine ⟨⟨n, tl [(t0, R)], [], 0, ⟨[tl []], some (.mp m1)⟩⟩, Le.tl (Ls := [[]]) (L := [(t0, R)]) [] (fun p hp => ?_) (by simp) (by simp) (by simp) ?_, rfl, rfl, rfl, ?_, _, rfl, by simp⟩
  · simp at hp; subst hp; simp only; rw [hR]; exact .cl hcl
  · exact ⟨by simp, trivial⟩
  · simp [tupA, tl]
end Go.Eng

set_option linter.unusedSimpArgs false
set_option linter.unusedVariables false
namespace Go.Eng
open Go Go.RowKit

theorem i_InlQ (rec : List It → (AState → Prop) → AState → Prop) (k : List It) (Q : AState → Prop) (d : Option Nat) (n : Nat) (ts : List Nat) (n' kk : Nat) (t t1 : Nat → AV) (h : List (Nat × Blk)) (sv1 : List (Nat → AV)) (y : Option Yl) :
    InlQ rec k Q d n ts ⟨n', t, h, kk, ⟨t1 :: sv1, y⟩⟩ = force (tupA (ts.map t)) fun v => force (putA ⟨n, t1, h, kk, ⟨sv1, y⟩⟩ d v) fun s' => rec k Q s' := rfl
theorem i_tup2 (x y : AV) (l : List AV) : tupA (x :: y :: l) = .t (x :: y :: l) := rfl
/-- A chunk, cell by cell. -/
def RenF (σ : Nat → Nat) (ns : List Nat) : List AV → List AV → Prop
  | [], [] => True
  | a :: l, b :: m => Ren σ ns a b ∧ RenF σ ns l m
  | _, _ => False
theorem i_RenF_nil (σ : Nat → Nat) (ns : List Nat) : RenF σ ns [] [] = True := rfl
theorem i_RenF_cons (σ : Nat → Nat) (ns : List Nat) (a b : AV) (l m : List AV) : RenF σ ns (a :: l) (b :: m) = (Ren σ ns a b ∧ RenF σ ns l m) := rfl
theorem renF_get {σ : Nat → Nat} {ns : List Nat} : ∀ {l m : List AV}, RenF σ ns l m → l.length = m.length ∧ ∀ (j : Nat) (a b : AV), l[j]? = some a → m[j]? = some b → Ren σ ns a b
  | [], [], _ => ⟨rfl, fun j a b h => by simp at h⟩
  | a :: l, b :: m, ⟨h1, h2⟩ => by
    obtain ⟨g1, g2⟩ := renF_get h2
    refine ⟨by simp [g1], fun j x y hx hy => ?_⟩
    match j with
    | 0 => simp at hx hy; subst hx; subst hy; exact h1
    | j + 1 => exact g2 j x y (by simpa using hx) (by simpa using hy)
  | [], _ :: _, h => h.elim
  | _ :: _, [], h => h.elim
theorem renL_F {σ : Nat → Nat} {ns : List Nat} {l m : List AV} (h : RenF σ ns l m) : RenL σ ns [l] [m] := renL_row (renF_get h).1 (renF_get h).2
theorem tl_ren {σ : Nat → Nat} {ns : List Nat} : ∀ {L : List (Nat × AV)}, (∀ p ∈ L, Ren σ ns p.2 p.2) → ∀ i, Ren σ ns (Eng.tl L i) (Eng.tl L i)
  | [], _, _ => .unk
  | (j, x) :: L, h, i => by
    unfold Eng.tl
    split
    · exact h _ (List.mem_cons_self ..)
    · exact tl_ren (fun p hp => h p (List.mem_cons_of_mem _ hp)) i
/-- Blocks handed over by their own names. -/
theorem MOk.id {h0 hr h1 : List (Nat × Blk)} {k0 k' : Nat} {pin : List Nat} {as : List AV} {L : List (Nat × AV)} {Ls : List (List (Nat × AV))} {R : AV} (hk0 : ∀ p ∈ h0, p.1 < k0) (has : ∀ a ∈ as, Ren id (h0.map (·.1)) a a) (hcl0 : ∀ p ∈ h0, RenL id (h0.map (·.1)) p.2.l p.2.l)
    (ht : ∀ p ∈ L, Ren id (pin ++ hr.map (·.1)) p.2 p.2) (hsv : ∀ M ∈ Ls, ∀ p ∈ M, Ren id (pin ++ hr.map (·.1)) p.2 p.2) (hhr : ∀ p ∈ hr, RenL id (pin ++ hr.map (·.1)) p.2.l p.2.l) (hpin : ∀ n ∈ pin, n ∈ h1.map (·.1) ∧ n ∈ h0.map (·.1))
    (h1r : ∀ p ∈ h1, RenL id (h1.map (·.1)) p.2.l p.2.l) (hR : Ren id (h1.map (·.1)) R R) (hnd : (h1.map (·.1)).Nodup) (hdis : ∀ p ∈ h1, p.1 ∉ hr.map (·.1)) (hlt : ∀ p ∈ h1 ++ hr, p.1 < k') : MOk h0 hr h1 h1 k0 k' pin id as (tl L) (Ls.map tl) R R := by
  refine ⟨hk0, has, hcl0, tl_ren ht, ⟨rfl, fun j f f' hf hf' i => ?_⟩, hhr, fun n hn => ⟨(hpin n hn).1, rfl, (hpin n hn).2⟩, fun p hp => ⟨p.2, ?_, rfl, h1r p hp⟩, hR, hnd, hdis, hlt⟩
  · rw [hf] at hf'; cases hf'
    simp only [List.getElem?_map, Option.map_eq_some_iff] at hf
    obtain ⟨M, hM, rfl⟩ := hf
    exact tl_ren (hsv M (List.mem_of_getElem? hM)) i
  · clear hdis hlt h1r hR hpin
    induction h1 with
    | nil => simp at hp
    | cons q r ih =>
      obtain ⟨m, b⟩ := q
      simp only [List.map_cons, List.nodup_cons] at hnd
      unfold find
      rcases List.mem_cons.1 hp with hp2 | hp2
      · subst hp2; simp
      · rw [if_neg]
        · exact ih hnd.2 hp2
        · intro e; exact hnd.1 (e ▸ List.mem_map_of_mem (f := fun p : Nat × Blk => p.1) hp2)
/-- A slice, compared with nil: where it is empty the answer is open. -/
theorem AtOp.isnil {P : Program} {rec : List It → (AState → Prop) → AState → Prop} {o : Oper} {k : List It} {Q : AState → Prop} {s : AState} {t u d : TypeId} {x : Operand} {e : Nat} {l : List (List AV)} (ho : o.op = .binOp .eql t x (.const (.slice none 0 0)) u) (ht : slT P t = some d)
    (hx : evA s.t x = .ro e l) (hk : ∀ b : Bool, (l ≠ [] → b = false) → force (putA s o.dst (.v (.bool b))) fun s' => rec k Q s') : AtOp P rec o k Q s := by
  intro ro Cs next E hg hnext a w ⟨C, hC, β, hs⟩
  have hP := hg.prog C hC
  subst hP
  refine ⟨fun _ _ => trivial, ?_⟩
  rw [Oper.semAt_eq _ _ _ (fun c hc => by rw [ho] at hc; cases hc)]
  have rx := hs.read x
  rw [hx] at rx
  have hrun : ∀ ad len cap, a.eval x = .slice ad len cap → (execOp a.eval o).run C.P w = .ok (.value (.bool ad.isNone)) w := by
    intro ad len cap hv
    obtain ⟨_, op, _, _, _, _⟩ := o
    simp only at ho; subst ho
    have hu := und_of_slT ht
    have e1 : (Op.equal t (.slice ad len cap) (.slice none 0 0)).run C.P w = .ok ad.isNone w := by
      rw [Op.equal, show (Op.maxDepth : Nat) = 9999 + 1 from rfl, Op.equalIn]
      simp only [Sem.run_bind, run_underlying hu, Result.andThen_ok]
      cases ad <;> rfl
    have ec : a.eval (.const (.slice none 0 0)) = .slice none 0 0 := rfl
    simp only [execOp, hv, ec]
    simp [eqGuard, binOp, e1, Sem.run_bind]
  generalize hv : a.eval x = va at rx
  cases rx with
  | ro0 =>
    rename_i cap ad
    rw [hrun _ _ _ hv]
    exact hnext _ _ _ (hk ad.isNone (fun h => absurd rfl h)) ⟨C, hC, β, hs.put (.v _) o.dst⟩
  | ro uu hX hb hl hd hu hR =>
    rw [hrun _ _ _ hv]
    exact hnext _ _ _ (hk false (fun _ => rfl)) ⟨C, hC, β, hs.put (.v _) o.dst⟩

/-- Only the first j chunks of a block are looked at from then on. -/
def cutH (n j : Nat) : List (Nat × Blk) → List (Nat × Blk)
  | [] => []
  | (m, b) :: r => (if m = n then (m, ⟨b.e, b.l.take j⟩) else (m, b)) :: cutH n j r
theorem i_cut_nil (n j : Nat) : cutH n j [] = [] := rfl
theorem i_cut_cons (n j m : Nat) (b : Blk) (r : List (Nat × Blk)) : cutH n j ((m, b) :: r) = (if m = n then (m, ⟨b.e, b.l.take j⟩) else (m, b)) :: cutH n j r := rfl
theorem cutH_map (n j : Nat) (h : List (Nat × Blk)) : (cutH n j h).map (·.1) = h.map (·.1) := by
  induction h with
  | nil => rfl
  | cons p r ih => obtain ⟨m, b⟩ := p; simp only [cutH, List.map_cons, ih]; split <;> rfl
theorem mem_cutH {n j : Nat} {h : List (Nat × Blk)} {p : Nat × Blk} (hp : p ∈ cutH n j h) : ∃ b, (p.1, b) ∈ h ∧ b.e = p.2.e ∧ (p.2.l = b.l ∨ p.2.l = b.l.take j) := by
  induction h with
  | nil => simp [cutH] at hp
  | cons q r ih =>
    obtain ⟨m, b⟩ := q
    simp only [cutH, List.mem_cons] at hp
    rcases hp with hp | hp
    · split at hp <;> (subst hp; exact ⟨b, List.mem_cons_self .., rfl, by simp⟩)
    · obtain ⟨b', h1, h2⟩ := ih hp
      exact ⟨b', List.mem_cons_of_mem _ h1, h2⟩
theorem Le.cut (nn j : Nat) {n k : Nat} {t : Nat → AV} {h : List (Nat × Blk)} {x : Aux} : Le ⟨n, t, h, k, x⟩ ⟨n, t, cutH nn j h, k, x⟩ := by
  rintro C a w ⟨β, hs⟩
  have hX : XOf C.F β (cutH nn j h) = XOf C.F β h := by
    funext b
    apply propext
    have e : (∃ p ∈ cutH nn j h, ∃ o e, β p.1 = some (b, o, e)) ↔ ∃ p ∈ h, ∃ o e, β p.1 = some (b, o, e) := by
      have e1 : ∀ H : List (Nat × Blk), (∃ p ∈ H, ∃ o e, β p.1 = some (b, o, e)) ↔ ∃ q ∈ H.map (·.1), ∃ o e, β q = some (b, o, e) := fun H =>
        ⟨fun ⟨p, hp, r⟩ => ⟨p.1, List.mem_map_of_mem hp, r⟩, fun ⟨q, hq, r⟩ => by obtain ⟨p, hp, rfl⟩ := List.mem_map.1 hq; exact ⟨p, hp, r⟩⟩
      rw [e1, e1, cutH_map]
    unfold XOf
    rw [e]
  refine ⟨β, hs.defers, hs.size, fun i => by rw [hX]; exact hs.tm i, fun p hp => ?_, fun p hp => ?_, hs.βlt, by show ((cutH nn j h).map (·.1)).Nodup; rw [cutH_map]; exact hs.nd, fun p hp q hq b o e o' e' h1 h2 => ?_, fun p hp b o e hb => ?_, hs.fr, hs.Flt, by rw [hX]; exact hs.sv, hs.yy⟩
  · rw [hX]
    obtain ⟨b, h1, h2, h3⟩ := mem_cutH hp
    rcases hs.own _ h1 with ⟨bb, o, c, ty, g1, g2, g3, g4, g5⟩ | ⟨g1, g2⟩
    · have hsub : ∀ (i : Nat) (ch : List AV), p.2.l[i]? = some ch → b.l[i]? = some ch := fun i ch hi => by
        rcases h3 with h3' | h3'
        · rw [h3'] at hi; exact hi
        · rw [h3', List.getElem?_take] at hi
          split at hi
          · exact hi
          · cases hi
      have hlen : p.2.l.length ≤ b.l.length := by
        rcases h3 with h3 | h3
        · rw [h3]; exact Nat.le_refl _
        · rw [h3, List.length_take]; omega
      refine .inl ⟨bb, o, c, ty, by rw [← h2]; exact g1, g2, fun ch hch => ?_, ?_, fun i jj ch s' hi hj => ?_⟩
      · obtain ⟨i, hi⟩ := List.getElem?_of_mem hch
        rw [← h2]; exact g3 ch (List.mem_of_getElem? (hsub i ch hi))
      · have := Nat.mul_le_mul_right b.e hlen
        rw [← h2]; simp only at g4; omega
      · obtain ⟨u, hu, hr⟩ := g5 i jj ch s' (hsub i ch hi) hj
        exact ⟨u, by rw [← h2]; exact hu, hr⟩
    · refine .inr ⟨?_, g2⟩
      simp only at g1
      rcases h3 with h3 | h3
      · rw [h3, g1]
      · rw [h3, g1]; exact List.take_nil
  · obtain ⟨b, h1, _⟩ := mem_cutH hp
    exact hs.lt (p.1, b) h1
  · obtain ⟨c, g1, _⟩ := mem_cutH hp
    obtain ⟨d, g2, _⟩ := mem_cutH hq
    exact hs.inj (p.1, c) g1 (q.1, d) g2 b o e o' e' h1 h2
  · obtain ⟨c, g1, _⟩ := mem_cutH hp
    exact hs.mine (p.1, c) g1 b o e hb
theorem FinM.le {args : List AV} {h0 : List (Nat × Blk)} {ts pin : List Nat} {R : AV} {h1 : List (Nat × Blk)} {k1 : Nat} {m1 : Mp} {s s' : AState} (h : Le s s') (hf : FinM args h0 ts pin R h1 k1 m1 s') : FinM args h0 ts pin R h1 k1 m1 s := by
  obtain ⟨s2, h1, h2⟩ := hf
  exact ⟨s2, h.trans h1, h2⟩
theorem MFun.toN {P : Program} {f : FuncId} {args : List AV} {z : Nat} {l : List (List AV)} (h : MFun P f args [] 0 none [] (.sl 0 0 l.length) [(0, ⟨z, l⟩)] 1 none) (hcl : ∀ c ∈ l, ∀ s ∈ c, Cl s) : NFun P f args z l := by
  obtain ⟨h1, h2⟩ := h
  refine ⟨h1, hcl, fun X w vs hX hl hR => ?_⟩
  have hX0 : XOf X B0 [] = X := by
    funext b; apply propext
    exact ⟨fun hb => hb.elim id (fun ⟨p, hp, _⟩ => by simp at hp), .inl⟩
  refine Calls.mono (h2 X B0 w vs hX ⟨by simp, by simp, fun n r hr => by simp [B0] at hr, List.nodup_nil, by simp, by simp⟩ (fun b l hb => by cases hb) hl (by rw [hX0]; exact hR)) ?_
  rintro e w' ⟨v, β', rfl, _, hH, _, hRv, hfr, hnew⟩
  have hno : ∀ b, ¬ OwnM B0 [] none b := by
    rintro b (⟨p, hp, _⟩ | ⟨l, hb⟩)
    · simp at hp
    · cases hb
  have hβ : β' = fun q => if q = 0 then β' 0 else none := by
    funext q
    by_cases hq : q = 0
    · simp [hq]
    · rw [if_neg hq]
      cases hb : β' q with
      | none => rfl
      | some r => have := hH.βlt q r hb; omega
  have hX1 : XOf X β' [(0, ⟨z, l⟩)] = fun b => X b ∨ ∃ o e, β' 0 = some (b, o, e) := by
    funext b; apply propext
    constructor
    · rintro (hb | ⟨p, hp, o, e, hb⟩)
      · exact .inl hb
      · simp at hp; subst hp; exact .inr ⟨o, e, hb⟩
    · rintro (hb | ⟨o, e, hb⟩)
      · exact .inl hb
      · exact .inr ⟨_, List.mem_cons_self .., o, e, hb⟩
  have hown := hH.own _ (List.mem_cons_self ..)
  rw [hX1] at hown hRv
  rw [hβ] at hown hRv
  simp only [if_true] at hown hRv
  refine ⟨v, β' 0, rfl, ⟨hfr.os, hfr.tape, hfr.output, hfr.size, fun b hb => hfr.block b hb (hno b)⟩, fun b o e hb => ?_, hown, hRv⟩
  exact (hnew b (.inl ⟨_, List.mem_cons_self .., o, e, hb⟩)).resolve_right (hno b)
theorem PFun.res {P : Program} {f : FuncId} {as : List AV} {R R' : AV} (h : PFun P f as R) (hs : Sub R R') : PFun P f as R' :=
  ⟨h.1, fun X w vs hX hl hR => Calls.mono (h.2 X w vs hX hl hR) (by rintro e w' ⟨v, he, hv, hext⟩; exact ⟨v, he, hs _ _ _ _ hv, hext⟩)⟩
theorem Sub.t2 {a a' : AV} (h : Sub a a') (b : AV) : Sub (.t [a, b]) (.t [a', b]) := by
  intro X β w u hr
  cases hr with
  | t hl hR =>
    refine .t hl fun k s u hs hu => ?_
    match k with
    | 0 => simp at hs; subst hs; exact h _ _ _ _ (hR 0 a u rfl hu)
    | 1 => simp at hs; subst hs; exact hR 1 b u rfl hu
    | k + 2 => simp at hs
/-- A piece of text, where less is known. -/
theorem AtCode.le {P : Program} {rec : List It → (AState → Prop) → AState → Prop} {c : Code} {k : List It} {Q : AState → Prop} {s : AState} (s' : AState) (hle : Le s s') (h : AtCode P rec c k Q s') : AtCode P rec c k Q s := by
  intro ro Cs Fin hg hm hrec hQ a w ⟨C, hC, hs⟩
  exact h ro Cs Fin hg hm hrec hQ a w ⟨C, hC, hle C a w hs⟩
/-- The same, where blocks that are still empty may be new. -/
theorem FinM.mk0 {args : List AV} {h0 : List (Nat × Blk)} {t0 : Nat} {R : AV} {h1 : List (Nat × Blk)} {k1 : Nat} {m1 : Mp} {n : Nat} {t : Nat → AV} {h : List (Nat × Blk)} {k : Nat} {f : Nat → AV} (r : List (Nat × Nat))
    (hR : Ren (sg r) (h1.map (·.1)) (t t0) R) (hh : ∀ p ∈ h1, (∃ b, find h (sg r p.1) = some b ∧ b.e = p.2.e ∧ RenL (sg r) (h1.map (·.1)) b.l p.2.l) ∨ (p.2.l = [] ∧ k ≤ sg r p.1)) (hlt : ∀ p ∈ h1, p.1 < k1) (hnd : (h1.map fun p => sg r p.1).Nodup) :
    FinM args h0 [t0] [] R h1 k1 m1 ⟨n, t, h, k, ⟨[f], some (.mp m1)⟩⟩ := by
  refine ⟨⟨n, tl [(t0, R)], h1, k1, ⟨[tl []], some (.mp m1)⟩⟩, Le.tl0 (Ls := [[]]) (L := [(t0, R)]) r (fun p hp => ?_) hh hlt hnd ⟨by simp, trivial⟩, rfl, rfl, rfl, ?_, _, rfl, by simp⟩
  · simp at hp; subst hp; exact hR
  · simp [tupA, tl]
/-- A run's end that hands memory back. -/
theorem FinM.mk {args : List AV} {h0 : List (Nat × Blk)} {t0 : Nat} {pin : List Nat} {R : AV} {h1 : List (Nat × Blk)} {k1 : Nat} {m1 : Mp} {n : Nat} {t : Nat → AV} {h : List (Nat × Blk)} {k : Nat} {f : Nat → AV} (r : List (Nat × Nat)) (Lp : List (Nat × AV))
    (hR : Ren (sg r) (h1.map (·.1)) (t t0) R) (hh : ∀ p ∈ h1, ∃ b, find h (sg r p.1) = some b ∧ b.e = p.2.e ∧ RenL (sg r) (h1.map (·.1)) b.l p.2.l) (hlt : ∀ p ∈ h1, p.1 < k1) (hnd : (h1.map fun p => sg r p.1).Nodup) (hsv : ∀ p ∈ Lp, Ren (sg r) (h1.map (·.1)) (f p.1) p.2)
    (hpin : ∀ n ∈ pin, ∃ i b b', args[i]? = some (.ptr n 0 0) ∧ tl Lp i = .ptr n 0 0 ∧ find h0 n = some b ∧ find h1 n = some b' ∧ b.e = b'.e ∧ b.l ≠ [] ∧ b'.l ≠ []) : FinM args h0 [t0] pin R h1 k1 m1 ⟨n, t, h, k, ⟨[f], some (.mp m1)⟩⟩ := by
  refine ⟨⟨n, tl [(t0, R)], h1, k1, ⟨[tl Lp], some (.mp m1)⟩⟩, Le.tl (Ls := [Lp]) (L := [(t0, R)]) r (fun p hp => ?_) hh hlt hnd ⟨hsv, trivial⟩, rfl, rfl, rfl, ?_, _, rfl, hpin⟩
  · simp at hp; subst hp; exact hR
  · simp [tupA, tl]
end Go.Eng

namespace Go.Eng
open Go Go.RowKit

section
variable {ops : Array Oper} {qs ps : List Nat}
end

theorem slE_ro3 (P : Program) (H : Nat → Option Blk) (t : TypeId) (e : Nat) (c : List (List AV)) (lo : Option AV) (a b : AV) (K : AV → Prop) : slE P H t (.ro e c) lo (some a) (some b) K =
    optK (asI a) fun p => optK (asI b) fun q => p.2 = q.2 ∧ slE P H t (.ro e c) lo (some a) none K := by
  apply propext
  unfold slE sliceK lenA
  cases ha : asI a with
  | none => simp [optK, ha]
  | some p =>
    cases hb : asI b with
    | none => simp [optK, hb]
    | some q =>
      obtain ⟨k, i⟩ := p
      obtain ⟨k', i'⟩ := q
      simp only [optK, ha, hb, Option.some.injEq, Prod.mk.injEq]
      constructor
      · rintro ⟨l, h, h1, ⟨k1, i1, ⟨rfl, rfl⟩, h2⟩, ⟨k2, i2, ⟨rfl, rfl⟩, h3⟩, h4, h5, h6⟩
        exact ⟨by omega, l, h, h1, ⟨k, i, ⟨rfl, rfl⟩, h2⟩, trivial, h4, h5, h6⟩
      · rintro ⟨h0, l, h, h1, ⟨k1, i1, ⟨rfl, rfl⟩, h2⟩, _, h4, h5, h6⟩
        exact ⟨l, h, h1, ⟨k, i, ⟨rfl, rfl⟩, h2⟩, ⟨k', i', ⟨rfl, rfl⟩, by omega⟩, h4, h5, h6⟩
end Go.Eng

set_option linter.unusedSimpArgs false
set_option linter.unusedVariables false
namespace Go.Eng
open Go Go.RowKit

theorem fd_mem : ∀ {h : List (Nat × Blk)}, (h.map (·.1)).Nodup → ∀ {p : Nat × Blk}, p ∈ h → find h p.1 = some p.2
  | [], _, p, hp => by simp at hp
  | q :: h, hn, p, hp => by
    simp only [List.map_cons, List.nodup_cons] at hn
    rcases List.mem_cons.1 hp with rfl | hp
    · simp [find]
    · have hne : q.1 ≠ p.1 := fun e => hn.1 (by rw [e]; exact List.mem_map_of_mem hp)
      have := fd_mem hn.2 hp
      simpa [find, hne] using this

/-- The first cells of what is copied. -/
theorem srcK_first {C : Ctx} {s : AState} {β : Bt} {a : Act} {w : World} (h : StR C s β a w) {z : Nat} {x : AV} {v : Value} {l : List (List AV)} (hx : RS (XOf C.F β s.h) β w x v) (hs : srcK (find s.h) z x (· = l)) (m : Nat) (hm : m ≤ l.length) (hnostr : ∀ b, x ≠ .v (.string b)) :
    ∃ cs, (Builtin.lenOf v).run C.P w = .ok l.length w ∧ (Builtin.firstCells z m v).run C.P w = .ok cs w ∧ Row (XOf C.F β s.h) β w z (l.take m) cs := by
  unfold srcK at hs
  split at hs
  · rename_i e l'
    obtain ⟨rfl, rfl⟩ := hs
    cases hx with
    | ro0 =>
      rename_i cap ad
      have : m = 0 := by simpa using hm
      subst this
      refine ⟨#[], by simp [Builtin.lenOf], ?_, by simpa using Row.nil⟩
      cases ad <;> simp [Builtin.firstCells, loadCells, loadCellsFrom]
    | ro u hX hb hl hd hu hR =>
      rename_i b o cap
      have hme : m * e ≤ l'.length * e := Nat.mul_le_mul_right _ hm
      refine ⟨_, by simp [Builtin.lenOf], run_firstCells (w := w) u fun q hq => hu q (by omega), fun c hc => hd c (List.mem_of_mem_take hc), by simp [Nat.min_eq_left hm], fun i j c s' hi hj => ?_⟩
      rw [List.getElem?_take] at hi
      split at hi
      case isFalse => cases hi
      rename_i him
      have hc := hd c (List.mem_of_getElem? hi)
      have hj' := (List.getElem?_eq_some_iff.1 hj).1
      have hm2 : (i + 1) * e ≤ m * e := Nat.mul_le_mul_right _ him
      rw [Nat.succ_mul] at hm2
      refine ⟨u (i * e + j), ?_, hR i j c s' hi hj⟩
      simp only [List.getElem?_toArray, List.getElem?_map]
      rw [List.getElem?_range (by omega)]; rfl
  · subst hs
    have : m = 0 := by simpa using hm
    subst this
    cases hx
    rename_i ad
    refine ⟨#[], by simp [Builtin.lenOf], ?_, by simpa using Row.nil⟩
    cases ad <;> simp [Builtin.firstCells, loadCells, loadCellsFrom]
  · rename_i n i len
    split at hs
    case h_2 => exact hs.elim
    rename_i k hk
    obtain ⟨rfl, hle, rfl⟩ := hs
    have hdl : (takeA i len k.l).length = len := by rw [takeA_eq]; simp; omega
    rw [hdl] at hm
    cases hx with
    | slz =>
      rename_i ad
      have : m = 0 := by omega
      subst this
      refine ⟨#[], by simp [Builtin.lenOf, hdl], ?_, by simpa using Row.nil⟩
      cases ad <;> simp [Builtin.firstCells, loadCells, loadCellsFrom]
    | sl hb hl hsh hcap =>
      have he' := own_e hb (h.look n k hk)
      subst he'
      obtain ⟨u, hu1, hu2⟩ := own_row (i := i) (len := m) h hk (by omega) hb
      have ht : (takeA i len k.l).take m = takeA i m k.l := by rw [takeA_eq, takeA_eq, List.take_take, Nat.min_eq_left hm]
      rw [ht]
      exact ⟨_, by simp [Builtin.lenOf, hdl], run_firstCells (w := w) u fun q hq => hu1 q hq, hu2⟩
  · subst hs
    have : m = 0 := by simpa using hm
    subst this
    cases hx
    exact ⟨#[], by simp [Builtin.lenOf], by simp [Builtin.firstCells], by simpa using Row.nil⟩
  · rename_i b
    exact absurd rfl (hnostr b)
  · exact hs.elim

/-- **copy** into an own block. -/
theorem AtOp.copy {P : Program} {rec : List It → (AState → Prop) → AState → Prop} {o : Oper} {k : List It} {Q : AState → Prop} {s : AState} {t t2 e : TypeId} {x y : Operand} {n i len : Nat} {b : Blk} {l : List (List AV)}
    (ho : o.op = .call ⟨.builtin .copy, #[x, y], #[t, t2]⟩) (ht : slT P t = some e) (hz0 : 0 < szT P e) (hx : evA s.t x = .sl n i len) (hb : find s.h n = some b) (hbe : b.e = szT P e) (hle : i + len ≤ b.l.length)
    (hy : srcK (find s.h) (szT P e) (evA s.t y) (· = l)) (hnostr : ∀ q, evA s.t y ≠ .v (.string q)) (hone : ∀ c ∈ l, ∀ q ∈ c, oneA q = true)
    (hk : ∀ h', h' = setN s.h n ⟨b.e, b.l.take i ++ l.take len ++ b.l.drop (i + min l.length len)⟩ → rec k Q (putA { s with h := h' } o.dst (.v (.int .i64 ((min l.length len : Nat) : Int))))) : AtOp P rec o k Q s := by
  intro ro Cs next E hg hnext a w ⟨C, hC, β, h⟩
  have hP := hg.prog C hC
  subst hP
  have hd : ∀ c, o.op ≠ .defer c := by intro c hc; rw [ho] at hc; cases hc
  refine ⟨fun _ _ => trivial, ?_⟩
  rw [Oper.semAt_eq _ _ _ hd]
  have hr := h.read x
  rw [hx] at hr
  obtain ⟨m, hm⟩ : ∃ m, m = min l.length len := ⟨_, rfl⟩
  have hlm : l.take len = l.take m := by
    rw [hm, Nat.min_def]
    split
    · rename_i hq; rw [List.take_of_length_le hq, List.take_of_length_le (Nat.le_refl _)]
    · rfl
  obtain ⟨cs, hlen, hfc, hrow⟩ := srcK_first h (h.read y) hy m (by omega) hnostr
  have hk := hk _ rfl
  rw [hlm, ← hm] at hk
  generalize hv : a.eval x = va at hr
  have key : ∃ w', (execOp a.eval o).run C.P w = .ok (.value (.int .i64 (m : Int))) w' ∧ StR C { s with h := setN s.h n ⟨b.e, b.l.take i ++ l.take m ++ b.l.drop (i + m)⟩ } β a w' := by
    cases hr with
    | slz =>
      rename_i ad
      have hm0 : m = 0 := by omega
      subst hm0
      have hcs : cs = #[] := by have := hrow.2.1; simpa using this
      subst hcs
      refine ⟨w, ?_, ?_⟩
      · obtain ⟨_, op, _, _, _, _⟩ := o
        simp only at ho; subst ho
        simp only [execOp, resolve, invoke, builtin, Builtin.copy_, hv, List.map_toArray, List.map_cons, List.map_nil, List.getElem?_toArray, List.getElem?_cons_zero, List.getElem?_cons_succ, Sem.run_bind, run_underlying (und_of_slT ht), Result.andThen_ok, Sem.run_pure, hlen, run_sizeOf' hz0, show Nat.min l.length 0 = 0 from Nat.min_zero _, hfc]
        cases ad <;> simp [storeCells, goInt]
      · have : setN s.h n ⟨b.e, b.l.take i ++ l.take 0 ++ b.l.drop (i + 0)⟩ = s.h := by
          simp only [List.take_zero, List.append_nil, Nat.add_zero, List.take_append_drop]
          unfold setN
          conv => rhs; rw [← List.map_id s.h]
          refine List.map_congr_left fun p hp => ?_
          split
          · rename_i e1
            have hp2 := find_mem hb
            have := h.nd
            have : p.2 = b := by
              have h1 : find s.h p.1 = some p.2 := fd_mem h.nd hp
              rw [e1, hb] at h1; exact (Option.some.inj h1).symm
            simp only [id]
            rw [← e1, ← this]
          · rfl
        rw [this]
        exact h
    | sl hbb hl hsh hcap =>
      rename_i cap bb o' e' mm tt
      rcases h.look n b hb with ⟨b', o'', c, t', p1, p2, p3, p4, p5⟩ | ⟨p1, p2⟩
      case inr => rw [hbb] at p2; cases p2
      rw [p1] at hbb; cases hbb
      have hcs : cs.size = m * szT C.P e := by rw [hrow.2.1, List.length_take, Nat.min_eq_left (by omega)]
      have hml : (i + m) * b.e ≤ b.l.length * b.e := Nat.mul_le_mul_right _ (by omega)
      rw [Nat.add_mul] at hml
      have hcs2 : cs.toList.length = m * b.e := by rw [Array.length_toList, hcs, hbe]
      have hst := run_storeCells_at C.P bb (o' + i * b.e) t' cs.toList 0 c w p2 (by rw [hcs2]; omega) (hrow.one hz0 (fun ch hch => hone ch (List.mem_of_mem_take hch)))
      refine ⟨w.setRow bb (c.toList.take (o' + i * b.e + 0) ++ cs.toList ++ c.toList.drop (o' + i * b.e + 0 + cs.toList.length)).toArray, ?_, ?_⟩
      · obtain ⟨_, op, _, _, _, _⟩ := o
        simp only at ho; subst ho
        have hmn : Nat.min l.length len = m := hm.symm
        simp only [execOp, resolve, invoke, builtin, Builtin.copy_, hv, List.map_toArray, List.map_cons, List.map_nil, List.getElem?_toArray, List.getElem?_cons_zero, List.getElem?_cons_succ, Sem.run_bind, run_underlying (und_of_slT ht), Result.andThen_ok, Sem.run_pure, hlen, run_sizeOf' hz0, hmn, hfc, hst]
        rfl
      · have hle2 : (i + m) ≤ b.l.length := by omega
        have hlen3 : (b.l.take i ++ l.take m ++ b.l.drop (i + m)).length = b.l.length := by simp; omega
        refine h.write (c' := (c.toList.take (o' + i * b.e + 0) ++ cs.toList ++ c.toList.drop (o' + i * b.e + 0 + cs.toList.length)).toArray) hb (k' := ⟨b.e, _⟩) p1 p2 (setRow_heap w bb c _ t' _ p2) ?_ (fun q hq => setRow_other w bb q _ hq) (setRow_size _ _ _) rfl rfl rfl ?_ ?_ ?_
        · simp [hcs2] at *; omega
        · intro ch hch
          simp only [List.mem_append] at hch
          rcases hch with (hch | hch) | hch
          · exact p3 _ (List.mem_of_mem_take hch)
          · rw [hbe]; exact hrow.1 _ hch
          · exact p3 _ (List.mem_of_mem_drop hch)
        · simp only [hlen3]
          simp [hcs2] at *; omega
        · intro i' j ch s' hi hj
          dsimp only at hi ⊢
          have hcl : j < b.e := by
            have : ch.length = b.e := by
              have hch := List.mem_of_getElem? hi
              simp only [List.mem_append] at hch
              rcases hch with (hch | hch) | hch
              · exact p3 _ (List.mem_of_mem_take hch)
              · rw [hbe]; exact hrow.1 _ hch
              · exact p3 _ (List.mem_of_mem_drop hch)
            have := (List.getElem?_eq_some_iff.1 hj).1
            omega
          have hget : ∀ q, q < c.size → (c.toList.take (o' + i * b.e + 0) ++ cs.toList ++ c.toList.drop (o' + i * b.e + 0 + cs.toList.length)).toArray[q]? =
              if o' + i * b.e ≤ q ∧ q < o' + i * b.e + m * b.e then cs[q - (o' + i * b.e)]? else c[q]? := by
            intro q hq
            simp only [List.getElem?_toArray, Nat.add_zero, List.append_assoc, hcs2]
            have hpos : o' + i * b.e ≤ c.toList.length := by simp; omega
            by_cases q1 : q < o' + i * b.e
            · rw [List.getElem?_append_left (by simp; omega), List.getElem?_take_of_lt q1, if_neg (by omega)]; simp
            · rw [List.getElem?_append_right (by simp; omega)]
              simp only [List.length_take, Nat.min_eq_left hpos]
              by_cases q2 : q < o' + i * b.e + m * b.e
              · rw [List.getElem?_append_left (by rw [hcs2]; omega), if_pos ⟨by omega, q2⟩]; simp
              · rw [List.getElem?_append_right (by rw [hcs2]; omega), if_neg (by omega)]
                simp only [List.getElem?_drop, hcs2, Array.getElem?_toList]
                congr 1; omega
          have hil : i' < b.l.length := by rw [← hlen3]; exact (List.getElem?_eq_some_iff.1 hi).1
          have hle3 : (i' + 1) * b.e ≤ b.l.length * b.e := Nat.mul_le_mul_right _ hil
          rw [Nat.succ_mul] at hle3
          rw [hget _ (by omega)]
          by_cases g1 : i' < i
          · have hg : (i' + 1) * b.e ≤ i * b.e := Nat.mul_le_mul_right _ g1
            rw [Nat.succ_mul] at hg
            rw [if_neg (by omega)]
            refine p5 i' j ch s' ?_ hj
            rw [List.append_assoc, List.getElem?_append_left (by simp; omega), List.getElem?_take_of_lt g1] at hi
            exact hi
          · have hg : i * b.e ≤ i' * b.e := Nat.mul_le_mul_right _ (by omega)
            rw [List.append_assoc, List.getElem?_append_right (by simp; omega)] at hi
            simp only [List.length_take, Nat.min_eq_left (show i ≤ b.l.length by omega)] at hi
            by_cases g2 : i' < i + m
            · have hg2 : (i' + 1) * b.e ≤ (i + m) * b.e := Nat.mul_le_mul_right _ g2
              rw [Nat.succ_mul, Nat.add_mul] at hg2
              rw [if_pos (by omega)]
              rw [List.getElem?_append_left (by simp; omega)] at hi
              obtain ⟨u, hu, hr⟩ := hrow.2.2 (i' - i) j ch s' hi hj
              refine ⟨u, ?_, hr⟩
              rw [← hbe] at hu
              rw [← hu]; congr 1
              have : (i' - i) * b.e = i' * b.e - i * b.e := Nat.sub_mul _ _ _
              omega
            · have hg2 : (i + m) * b.e ≤ i' * b.e := Nat.mul_le_mul_right _ (by omega)
              rw [Nat.add_mul] at hg2
              rw [if_neg (by omega)]
              refine p5 i' j ch s' ?_ hj
              rw [List.getElem?_append_right (by simp; omega)] at hi
              simp only [List.length_take, List.getElem?_drop] at hi
              rw [← hi]; congr 1; omega
  obtain ⟨w', hrun, hst⟩ := key
  rw [hrun]
  exact hnext _ _ _ hk ⟨C, hC, β, hst.put (.v _) o.dst⟩

/-- An append of so many zeros to nothing. -/
theorem AtOp.grow {P : Program} {rec : List It → (AState → Prop) → AState → Prop} {o : Oper} {k : List It} {Q : AState → Prop} {s : AState} {t t2 e : TypeId} {x y : Operand} {m : Nat} {zl : List Value} {ik : IntKind}
    (ho : o.op = .call ⟨.builtin .append, #[x, y], #[t, t2]⟩) (ht : slT P t = some e) (ht2 : ikT P t2 = some ik) (hz0 : 0 < szT P e) (hby : byT P e ≤ 256) (hzl : zeT P e = some zl) (hzs : zl.length = szT P e)
    (hx : evA s.t x = .v (.slice none 0 0)) (hy : evA s.t y = I m) (hm0 : 0 < m) (hm : m ≤ 274877906944)
    (hk : rec k Q (putA (pushA s ⟨szT P e, List.replicate m (zl.map .v)⟩) o.dst (.sl s.k 0 m))) : AtOp P rec o k Q s := by
  intro ro Cs next E hg hnext a w ⟨C, hC, β, h⟩
  have hP := hg.prog C hC
  subst hP
  have hd : ∀ c, o.op ≠ .defer c := by intro c hc; rw [ho] at hc; cases hc
  refine ⟨fun _ _ => trivial, ?_⟩
  rw [Oper.semAt_eq _ _ _ hd]
  have hr := h.read x
  rw [hx] at hr
  have hry := h.read y
  rw [hy] at hry
  generalize hv : a.eval x = va at hr
  generalize hvy : a.eval y = vy at hry
  cases hr
  cases hry
  obtain ⟨ti, hti, hsz⟩ : ∃ ti, C.P.info? e = some ti ∧ ti.bytes = byT C.P e := by
    unfold szT at hz0; unfold byT
    cases hi : C.P.info? e with
    | none => simp [hi] at hz0
    | some ti => exact ⟨ti, rfl, by simp⟩
  have hti' : ∀ w', (typeInfo e).run C.P w' = .ok ti w' := fun w' => by simp [typeInfo, hti]
  have hw : IntKind.i64.wrap (m : Int) = m := wrap_i64 (by omega) (by omega)
  have hmul : m * ti.bytes ≤ 274877906944 * 256 := Nat.mul_le_mul hm (by omega)
  have hn0 : ¬ ((m : Int) < 0) := by omega
  have hn1 : ¬ ((m : Int) * ti.bytes > 2 ^ 48) := by
    have : ((m * ti.bytes : Nat) : Int) ≤ ((274877906944 * 256 : Nat) : Int) := by exact_mod_cast hmul
    rw [Int.natCast_mul] at this
    omega
  have hmax : IntKind.i64.max = 9223372036854775807 := rfl
  have hn2 : ¬ (((m : Nat) : Int) > IntKind.i64.max) := by rw [hmax]; omega
  have hnx : Builtin.nextslicecap m 0 = m := by unfold Builtin.nextslicecap; rw [if_pos (by omega)]
  have hn3 : ¬ (m * ti.bytes > 2 ^ 48) := by omega
  have hn4 : ¬ (m ≤ 0) := by omega
  have hn5 : ¬ (m * szT C.P e = 0) := by
    have := Nat.mul_pos hm0 hz0
    omega
  obtain ⟨w1, hw1⟩ : ∃ w1 : World, w1 = { w with drawn := w.drawn + 1 } := ⟨_, rfl⟩
  obtain ⟨zv, hz1, hz2⟩ := zeT_run (P := C.P) (w := w1) hzl
  have hz2' : zv.cells = zl.toArray := by rw [← hz2]
  obtain ⟨q, hq⟩ : ∃ q, q = w.tape w.drawn (.appendCap m 0 e) % (2 ^ 63 - m) := ⟨_, rfl⟩
  have hrun : (execOp a.eval o).run C.P w = .ok (.value (.slice (some ⟨w.heap.size, 0, none⟩) m (m + q))) { w1 with heap := w.heap.push (.cells (Builtin.zeroCells zl.toArray m ++ Builtin.zeroCells zl.toArray q) e (0, 0)) } := by
    obtain ⟨_, op, _, _, _, _⟩ := o
    simp only at ho; subst ho
    have hsub : m + w.tape w.drawn (.appendCap m 0 e) % (2 ^ 63 - m) - m = q := by omega
    simp only [execOp, resolve, invoke, builtin, Builtin.append_, hv, hvy, List.map_toArray, List.map_cons, List.map_nil, List.getElem?_toArray, List.getElem?_cons_zero, List.getElem?_cons_succ, Sem.run_bind, run_underlying (und_of_slT ht), run_underlying (und_of_ikT ht2), Result.andThen_ok, Sem.run_pure, run_sizeOf' hz0, asInt, asIntOf, hw, if_true, hti', Sem.run_ite, if_neg hn0, if_neg hn1, Int.toNat_natCast, Nat.zero_add, if_neg hn4, hn2, false_and, if_false, hnx, if_neg hn3, run_choose, Question.forced, Question.cut, run_askRoom, Builtin.firstCells, Nat.zero_mul, Nat.add_sub_cancel_left, Bool.not_true, Bool.false_eq_true, if_neg hn5, ← hw1, hz1, hz2', hsub, newRow, run_newObj, Array.empty_append, ← hq]
    subst hw1
    rfl
  rw [hrun]
  have hrow : Row (XOf C.F β s.h) β w (szT C.P e) (List.replicate m (zl.map AV.v)) (Builtin.zeroCells zl.toArray m) := by
    refine ⟨fun c hc => by rw [List.eq_of_mem_replicate hc]; simp [hzs], by simp [Builtin.zeroCells, hzs], fun i j c s' hi hj => ?_⟩
    rw [List.getElem?_replicate] at hi
    split at hi
    case isFalse => cases hi
    rename_i hix; cases hi
    simp only [List.getElem?_map, Option.map_eq_some_iff] at hj
    obtain ⟨u, hu', rfl⟩ := hj
    have hjl : j < szT C.P e := by have := (List.getElem?_eq_some_iff.1 hu').1; omega
    have : (i + 1) * szT C.P e ≤ m * szT C.P e := Nat.mul_le_mul_right _ (by omega)
    rw [Nat.succ_mul] at this
    refine ⟨u, ?_, .v _⟩
    have hmod : (i * szT C.P e + j) % szT C.P e = j := by rw [Nat.add_comm, Nat.add_mul_mod_self_right]; exact Nat.mod_eq_of_lt hjl
    have hlt : i * szT C.P e + j < m * szT C.P e := by omega
    obtain ⟨hjl', hju⟩ := List.getElem?_eq_some_iff.1 hu'
    simp [Builtin.zeroCells, hzs, hlt, hmod, hjl', hju, hu']
  obtain ⟨β', r1, r2, _⟩ := ap_out h [] hrow (rest := Builtin.zeroCells zl.toArray q) (nc := m + q) (e := e) (w1 := { w1 with heap := w.heap.push (.cells (Builtin.zeroCells zl.toArray m ++ Builtin.zeroCells zl.toArray q) e (0, 0)) }) (by simp [Builtin.zeroCells, hzs]) (by simp) (by subst hw1; rfl) (by subst hw1; rfl) (by subst hw1; rfl) rfl
  have hdn : dropN [] s.h = s.h := by simp [dropN]
  rw [hdn] at r1 r2
  simp only [List.length_replicate] at r2
  exact hnext _ _ _ hk ⟨C, hC, β', r1.put r2 o.dst⟩

theorem StR.bump {C : Ctx} {s : AState} {β : Bt} {a : Act} {w : World} (h : StR C s β a w) : StR C { s with k := s.k + 1 } β a w :=
  ⟨h.defers, h.size, h.tm, h.own, fun p hp => Nat.lt_succ_of_lt (h.lt p hp), fun n r hr => Nat.lt_succ_of_lt (h.βlt n r hr), h.nd, h.inj, h.mine, h.fr, h.Flt, h.sv, h.yy⟩
/-- A call of a function whose answer is memory of its own. -/
theorem AtFn.new' {P : Program} {rec : List It → (AState → Prop) → AState → Prop} {o : Oper} {f : FuncId} {as as' : List AV} {k : List It} {Q : AState → Prop} {s : AState} {z : Nat} {l : List (List AV)} {ns : List Nat}
    (has : as.map (frzA (find s.h) 3) = as') (hns : as.flatMap (namesA (find s.h) 3) = ns) (hfun : NFun P f as' z l) (hcl : ∀ a ∈ as', Cl a)
    (hk : rec k Q (putA (pushA { s with h := dropN ns s.h } ⟨z, l⟩) o.dst (.sl s.k 0 l.length))) : AtFn P rec o f as k Q s := by
  rintro ⟨fo, xs, ats, caps, ho, hf, rfl⟩ ro Cs next E hg hnext a w ⟨C, hC, β, h⟩
  have hP := hg.prog C hC
  subst hP; subst has; subst hns
  refine ⟨fun _ _ => trivial, ?_⟩
  rw [Oper.semAt_eq _ _ _ (fun c hc => by rw [ho] at hc; cases hc)]
  obtain ⟨⟨fn, hfn, hname, hbody⟩, hclR, hcall⟩ := hfun
  have hfr := h.read fo
  rw [hf] at hfr
  generalize hv : a.eval fo = va at hfr
  cases hfr with
  | fn hl hR =>
    rename_i vs
    have hd := h.drop ((xs.toList.map (evA s.t) ++ caps).flatMap (namesA (find s.h) 3))
    obtain ⟨ha1, ha2⟩ := args_get (fun x => h.read x) xs
    have hrun : (execOp a.eval o).run C.P w = .ok (.enter f (xs.map a.eval ++ vs)) w := by
      obtain ⟨_, op, _, _, _, _⟩ := o
      simp only at ho; subst ho
      have hnb : ¬ fn.body = none := by cases hb : fn.body <;> simp_all
      have hne : ¬ fn.name = "runtime.NumGoroutine" := by simpa using hname
      simp [execOp, resolve, hv, Deferred.ofValue, invoke, callFunc, hfn, hne, hnb]
    rw [hrun]
    have hX : ∀ b, XOf C.F β (dropN ((xs.toList.map (evA s.t) ++ caps).flatMap (namesA (find s.h) 3)) s.h) b → b < w.heap.size := by
      rintro b (hb | ⟨p, hp, o, e, hb⟩)
      · exact Nat.lt_of_lt_of_le (h.Flt b hb) h.fr.size
      · exact h.lt_size (mem_dropN.1 hp).1 hb
    refine ⟨wd_depth, callsIn_wd ?_⟩
    refine Calls.mono (hcall _ w (xs.map a.eval ++ vs) hX (by simp at ha1 hl ⊢; omega) (fun q sv u hsv hu => ?_)) ?_
    · simp only [List.getElem?_map, Option.map_eq_some_iff] at hsv
      obtain ⟨x, hx, rfl⟩ := hsv
      have hmem : x ∈ xs.toList.map (evA s.t) ++ caps := List.mem_of_getElem? hx
      have hrs : RS (XOf C.F β s.h) β w x u := by
        by_cases hq : q < (xs.toList.map (evA s.t)).length
        · rw [List.getElem?_append_left hq] at hx
          rw [Array.getElem?_append_left (by omega)] at hu
          exact ha2 q x u hx hu
        · rw [List.getElem?_append_right (by omega)] at hx
          rw [Array.getElem?_append_right (by omega)] at hu
          rw [← ha1] at hu
          exact hR _ x u hx hu
      exact (frzA_sound h _ 3 x u hrs (fun n hn => List.mem_flatMap.2 ⟨x, hmem, hn⟩)).closed (hcl _ (List.mem_map_of_mem hmem)) B0
    · rintro e w' ⟨v, r, rfl, hext, hr, hown, hRv⟩
      have hfresh : β s.k = none := by
        cases hb : β s.k with
        | none => rfl
        | some r => exact absurd (h.βlt _ _ hb) (Nat.lt_irrefl _)
      have hne : ∀ p ∈ dropN ((xs.toList.map (evA s.t) ++ caps).flatMap (namesA (find s.h) 3)) s.h, p.1 ≠ s.k := fun p hp => Nat.ne_of_lt (hd.lt p hp)
      obtain ⟨hst, hvv⟩ := hd.bump.nfunAt (n := s.k) hfresh hne (Nat.lt_succ_self _) hext hr hclR hown hRv
      exact hnext _ _ _ hk ⟨C, hC, _, hst.put hvv o.dst⟩
/-- A call of a pure function that reads own blocks, and whose answer is a plain value: the blocks stay. -/
theorem AtFn.keep' {P : Program} {rec : List It → (AState → Prop) → AState → Prop} {o : Oper} {f : FuncId} {as as' : List AV} {k : List It} {Q : AState → Prop} {s : AState} {R : AV} {ns : List Nat}
    (has : as.map (frzA (find s.h) 3) = as') (hns : as.flatMap (namesA (find s.h) 3) = ns) (hfun : PFun P f as' R) (hsc : ∀ X X' w u, RS X B0 w R u → RS X' B0 w R u) (hcl : ∀ a ∈ as', Cl a)
    (hk : rec k Q (putA s o.dst R)) : AtFn P rec o f as k Q s := by
  rintro ⟨fo, xs, ats, caps, ho, hf, rfl⟩ ro Cs next E hg hnext a w ⟨C, hC, β, h⟩
  have hP := hg.prog C hC
  subst hP; subst has; subst hns
  refine ⟨fun _ _ => trivial, ?_⟩
  rw [Oper.semAt_eq _ _ _ (fun c hc => by rw [ho] at hc; cases hc)]
  obtain ⟨⟨fn, hfn, hname, hbody⟩, hcall⟩ := hfun
  have hfr := h.read fo
  rw [hf] at hfr
  generalize hv : a.eval fo = va at hfr
  cases hfr with
  | fn hl hR =>
    rename_i vs
    have hd := h.drop ((xs.toList.map (evA s.t) ++ caps).flatMap (namesA (find s.h) 3))
    obtain ⟨ha1, ha2⟩ := args_get (fun x => h.read x) xs
    have hrun : (execOp a.eval o).run C.P w = .ok (.enter f (xs.map a.eval ++ vs)) w := by
      obtain ⟨_, op, _, _, _, _⟩ := o
      simp only at ho; subst ho
      have hnb : ¬ fn.body = none := by cases hb : fn.body <;> simp_all
      have hne : ¬ fn.name = "runtime.NumGoroutine" := by simpa using hname
      simp [execOp, resolve, hv, Deferred.ofValue, invoke, callFunc, hfn, hne, hnb]
    rw [hrun]
    have hX : ∀ b, XOf C.F β (dropN ((xs.toList.map (evA s.t) ++ caps).flatMap (namesA (find s.h) 3)) s.h) b → b < w.heap.size := by
      rintro b (hb | ⟨p, hp, o, e, hb⟩)
      · exact Nat.lt_of_lt_of_le (h.Flt b hb) h.fr.size
      · exact h.lt_size (mem_dropN.1 hp).1 hb
    refine ⟨wd_depth, callsIn_wd ?_⟩
    refine Calls.mono (hcall _ w (xs.map a.eval ++ vs) hX (by simp at ha1 hl ⊢; omega) (fun q sv u hsv hu => ?_)) ?_
    · simp only [List.getElem?_map, Option.map_eq_some_iff] at hsv
      obtain ⟨x, hx, rfl⟩ := hsv
      have hmem : x ∈ xs.toList.map (evA s.t) ++ caps := List.mem_of_getElem? hx
      have hrs : RS (XOf C.F β s.h) β w x u := by
        by_cases hq : q < (xs.toList.map (evA s.t)).length
        · rw [List.getElem?_append_left hq] at hx
          rw [Array.getElem?_append_left (by omega)] at hu
          exact ha2 q x u hx hu
        · rw [List.getElem?_append_right (by omega)] at hx
          rw [Array.getElem?_append_right (by omega)] at hu
          rw [← ha1] at hu
          exact hR _ x u hx hu
      exact (frzA_sound h _ 3 x u hrs (fun n hn => List.mem_flatMap.2 ⟨x, hmem, hn⟩)).closed (hcl _ (List.mem_map_of_mem hmem)) B0
    · rintro e w' ⟨v, rfl, hRv, hext⟩
      have hRv' : RS (XOf C.F β s.h) β w' R v :=
        (hsc _ (XOf C.F β s.h) _ _ hRv).mono ⟨fun _ h h' => absurd h h', (fun _ _ h => by cases h), Nat.le_refl _, fun _ _ _ => rfl, fun _ _ _ h => h⟩
      exact hnext _ _ _ hk ⟨C, hC, β, (h.ext hext).put hRv' o.dst⟩
theorem AtFn.keep {P : Program} {rec : List It → (AState → Prop) → AState → Prop} {o : Oper} {f : FuncId} {as as' : List AV} {k : List It} {Q : AState → Prop} {s : AState} {x : Value}
    (hfun : PFun P f as' (.v x)) (hk : force (as.map (frzA (find s.h) 3)) fun y => y = as' ∧ (∀ a ∈ as', Cl a) ∧ force (putA s o.dst (.v x)) fun s' => rec k Q s') : AtFn P rec o f as k Q s := by
  obtain ⟨h1, h2, h3⟩ := hk
  exact AtFn.keep' h1 rfl hfun (fun X X' w u h => by cases h; exact .v _) h2 h3
theorem AtFn.new {P : Program} {rec : List It → (AState → Prop) → AState → Prop} {o : Oper} {f : FuncId} {as as' : List AV} {k : List It} {Q : AState → Prop} {s : AState} {z : Nat} {l : List (List AV)}
    (hfun : NFun P f as' z l) (hk : force (as.map (frzA (find s.h) 3)) fun x => x = as' ∧ (∀ a ∈ as', Cl a) ∧ force (dropN (as.flatMap (namesA (find s.h) 3)) s.h) fun h' => force (putA (pushA { s with h := h' } ⟨z, l⟩) o.dst (.sl s.k 0 l.length)) fun s' => rec k Q s') : AtFn P rec o f as k Q s := by
  obtain ⟨h1, h2, h3⟩ := hk
  exact AtFn.new' h1 rfl hfun h2 h3
end Go.Eng

set_option linter.unusedSimpArgs false
set_option linter.unusedVariables false
namespace Go.Eng
open Go Go.RowKit

/-- The end of a run that hands memory back. -/
def FinM2 (args : List AV) (h0 : List (Nat × Blk)) (ts : List Nat) (pin : List Nat) (R : AV) (h1 : List (Nat × Blk)) (k1 : Nat) (m1 : Mp) (s : AState) : Prop :=
  ∃ s', Le s s' ∧ s'.h = h1 ∧ s'.k = k1 ∧ s'.x.y = some (.mp m1) ∧ tupA (ts.map s'.t) = R ∧ ∃ f, s'.x.sv = [f] ∧
    ∀ n ∈ pin, ∃ i o l b b', args[i]? = some (.sl n o (l + 1)) ∧ f i = .sl n o (l + 1) ∧ find h0 n = some b ∧ find h1 n = some b' ∧ b.e = b'.e ∧ b.l ≠ [] ∧ b'.l ≠ []

theorem RS.sl_inv {X : Nat → Prop} {β : Bt} {w : World} {n i l : Nat} {u : Value} (h : RS X β w (.sl n i (l + 1)) u) {b o e : Nat} (hb : β n = some (b, o, e)) : ∃ c, u = .slice (some ⟨b, o + i * e, none⟩) (l + 1) c := by
  cases h with
  | sl h _ _ _ => rw [hb] at h; simp only [Option.some.injEq, Prod.mk.injEq] at h; obtain ⟨rfl, rfl, rfl⟩ := h; exact ⟨_, rfl⟩
/-- **A contract from the text.** -/
theorem MFun.intro2 {P : Program} {f : FuncId} {fn : Func} {c : Code} {args : List AV} {h0 : List (Nat × Blk)} {k0 : Nat} {m0 : Mp} {pin : List Nat} {R : AV} {h1 : List (Nat × Blk)} {k1 : Nat} {m1 : Mp} (n : Nat) (ts : List Nat)
    (hm : P.follows .mixedOrders = true) (hf : P.funcs[f]? = some fn) (hname : (fn.name == "runtime.NumGoroutine") = false)
    (hb : fn.body = some c) (hres : fn.results.toList = ts.map ResultVar.tmp) (hlen : args.length ≤ fn.ntmps)
    (hrun : vcRun P n [.c c] (FinM2 args h0 ts pin R h1 k1 m1) ⟨fn.ntmps, slots args, h0, k0, ⟨[slots args], some (.mp m0)⟩⟩) : MFun P f args h0 k0 m0 pin R h1 k1 m1 := by
  refine ⟨⟨fn, hf, hname, by simp [hb]⟩, fun X β w vs hX hH hM hl hR => ?_⟩
  let C : Ctx := ⟨P, X, OwnM β h0 m0, w, [fun i => vs.getD i undef], some (.mp m0), none⟩
  have hst : StR C ⟨fn.ntmps, slots args, h0, k0, ⟨[slots args], some (.mp m0)⟩⟩ β { tmps := vs ++ Array.replicate (fn.ntmps - vs.size) undef, defers := [] } w := by
    refine ⟨⟨fun d hd => by simp at hd, List.nodup_nil, fun l hl => (by cases hl), fun b l hb => ?_⟩, by simp; omega, fun i => slots_RS hl hR i _, hH.own, hH.lt, hH.βlt, hH.nd, hH.inj, fun p hp b o e hb => ⟨.inr (.inl ⟨p, hp, o, e, hb⟩), hH.off p hp b o e hb⟩,
      ⟨rfl, rfl, rfl, Nat.le_refl _, fun _ _ _ => rfl, fun _ _ _ h => h⟩, hX, ⟨rfl, fun j g g' hg hg' i => ?_⟩, rfl⟩
    · simp only [C, Option.some.injEq, Yl.mp.injEq] at hb
      exact ⟨(hM b l hb).1, .inr (.inr ⟨l, hb⟩), (hM b l hb).2⟩
    · match j with
      | 0 =>
        simp only [C, List.getElem?_cons_zero, Option.some.injEq] at hg hg'
        subst hg; subst hg'
        have := slots_RS (n := 0) hl hR i
        simpa using this
      | j + 1 => simp at hg
  refine (callsIn_wide (n := 0)).1 (callsIn_of_wp_marks hf hb trivial ?_)
  have hsound := vcRun_sound (P := P) hm n none (fun C' => ∃ m, C' = { C with y := some (.mp m) })
    (fun a w' => LeavesInM Fence.wide 0 P fn a.tmps (fun e w' => ∃ v β', e = .returned v ∧ (∀ n ∈ pin, β' n = β n) ∧ Hp X β' h1 k1 w' ∧ MpW X w' m1 ∧ RS (XOf X β' h1) β' w' R v ∧
      Fr (OwnM β h0 m0) w w' ∧ ∀ b, OwnM β' h1 m1 b → w.heap.size ≤ b ∨ OwnM β h0 m0 b) a.defers .returning w') (FinM2 args h0 ts pin R h1 k1 m1) (GoodC.mp (C := C) rfl)
    (fun s a w' hQ hs => by
      obtain ⟨C', ⟨m, rfl⟩, hs⟩ := hs
      obtain ⟨s', hle, rfl, rfl, hy', hR', fs, hsv', hpin⟩ := hQ
      obtain ⟨β', hs'⟩ := hle _ _ _ hs
      have hy2 := hs'.yy
      rw [hy'] at hy2
      simp only [Option.some.injEq, Yl.mp.injEq] at hy2
      subst hy2
      refine leavesG (C := { C with y := some (.mp m1) }) (fun a w' hs' => ?_) _ a w' rfl hs'
      obtain ⟨v, h3, h4⟩ := results_tmps hs' hres
      rw [hR'] at h4
      refine ⟨v, h3, v, β', rfl, fun q hq => ?_, ⟨hs'.own, hs'.lt, hs'.βlt, hs'.nd, hs'.inj, fun p hp b o e hb => (hs'.mine p hp b o e hb).2⟩, fun b l hb => ?_, h4, hs'.fr, fun b hb => ?_⟩
      · obtain ⟨i, oo0, ll, b, b', e1, e2, e3, e4, e5, e6, e7⟩ := hpin q hq
        have hlt : i < vs.size := by have := (List.getElem?_eq_some_iff.1 e1).1; omega
        have r1 := hR i _ _ e1 (Array.getElem?_eq_getElem hlt)
        have r2 := hs'.sv.2 0 fs (fun i => vs.getD i undef) (by rw [hsv']; rfl) rfl i
        rw [e2] at r2
        have e8 : vs.getD i undef = vs[i] := by simp [Array.getD, hlt]
        simp only [e8] at r2
        obtain ⟨bb, oo, hb1⟩ := (hH.own _ (find_mem e3)).at e6
        obtain ⟨bb', oo', hb2⟩ := (hs'.own _ (find_mem e4)).at e7
        simp only at hb1 hb2
        obtain ⟨c1, u1⟩ := r1.sl_inv hb1
        obtain ⟨c2, u2⟩ := r2.sl_inv hb2
        rw [u1] at u2
        simp only [Value.slice.injEq, Option.some.injEq, Addr.mk.injEq, and_true, true_and] at u2
        rw [hb1, hb2, e5]
        obtain ⟨⟨u3, u4⟩, _⟩ := u2
        rw [e5] at u4
        have : oo = oo' := by omega
        rw [u3, this]
      · obtain ⟨g1, g2, g3⟩ := hs'.defers.mp b l (by rw [hb])
        exact ⟨g1, g3⟩
      · rcases hb with ⟨p, hp, o, e, hb⟩ | ⟨l, hb⟩
        · exact (hs'.mine p hp b o e hb).1
        · exact (hs'.defers.mp b l (by rw [hb])).2.1) _ _ _ _ hrun ⟨C, ⟨m0, rfl⟩, β, hst⟩
  simp only [Kont] at hsound
  refine Code.wpIn_mono (fun e a' w' he => ?_) hsound
  cases e with
  | normal => exact he
  | ret => exact he
  | _ => exact he.elim

theorem FinM2.le {args : List AV} {h0 : List (Nat × Blk)} {ts pin : List Nat} {R : AV} {h1 : List (Nat × Blk)} {k1 : Nat} {m1 : Mp} {s s' : AState} (h : Le s s') (hf : FinM2 args h0 ts pin R h1 k1 m1 s') : FinM2 args h0 ts pin R h1 k1 m1 s := by
  obtain ⟨s2, h1, h2⟩ := hf
  exact ⟨s2, h.trans h1, h2⟩
/-- A run's end that hands memory back. -/
theorem FinM2.mk {args : List AV} {h0 : List (Nat × Blk)} {t0 : Nat} {pin : List Nat} {R : AV} {h1 : List (Nat × Blk)} {k1 : Nat} {m1 : Mp} {n : Nat} {t : Nat → AV} {h : List (Nat × Blk)} {k : Nat} {f : Nat → AV} (r : List (Nat × Nat)) (Lp : List (Nat × AV))
    (hR : Ren (sg r) (h1.map (·.1)) (t t0) R) (hh : ∀ p ∈ h1, ∃ b, find h (sg r p.1) = some b ∧ b.e = p.2.e ∧ RenL (sg r) (h1.map (·.1)) b.l p.2.l) (hlt : ∀ p ∈ h1, p.1 < k1) (hnd : (h1.map fun p => sg r p.1).Nodup) (hsv : ∀ p ∈ Lp, Ren (sg r) (h1.map (·.1)) (f p.1) p.2)
    (hpin : ∀ n ∈ pin, ∃ i o l b b', args[i]? = some (.sl n o (l + 1)) ∧ tl Lp i = .sl n o (l + 1) ∧ find h0 n = some b ∧ find h1 n = some b' ∧ b.e = b'.e ∧ b.l ≠ [] ∧ b'.l ≠ []) : FinM2 args h0 [t0] pin R h1 k1 m1 ⟨n, t, h, k, ⟨[f], some (.mp m1)⟩⟩ := by
  refine ⟨⟨n, tl [(t0, R)], h1, k1, ⟨[tl Lp], some (.mp m1)⟩⟩, Le.tl (Ls := [Lp]) (L := [(t0, R)]) r (fun p hp => ?_) hh hlt hnd ⟨hsv, trivial⟩, rfl, rfl, rfl, ?_, _, rfl, hpin⟩
  · simp at hp; subst hp; exact hR
  · simp [tupA, tl]
/-- The end of a run without results. -/
theorem FinM2.mkv {args : List AV} {h0 : List (Nat × Blk)} {pin : List Nat} {h1 : List (Nat × Blk)} {k1 : Nat} {m1 : Mp} {n : Nat} {t : Nat → AV} {h : List (Nat × Blk)} {k : Nat} {f : Nat → AV} (r : List (Nat × Nat)) (Lp : List (Nat × AV))
    (hh : ∀ p ∈ h1, ∃ b, find h (sg r p.1) = some b ∧ b.e = p.2.e ∧ RenL (sg r) (h1.map (·.1)) b.l p.2.l) (hlt : ∀ p ∈ h1, p.1 < k1) (hnd : (h1.map fun p => sg r p.1).Nodup) (hsv : ∀ p ∈ Lp, Ren (sg r) (h1.map (·.1)) (f p.1) p.2)
    (hpin : ∀ n ∈ pin, ∃ i o l b b', args[i]? = some (.sl n o (l + 1)) ∧ tl Lp i = .sl n o (l + 1) ∧ find h0 n = some b ∧ find h1 n = some b' ∧ b.e = b'.e ∧ b.l ≠ [] ∧ b'.l ≠ []) : FinM2 args h0 [] pin (.t []) h1 k1 m1 ⟨n, t, h, k, ⟨[f], some (.mp m1)⟩⟩ := by
  refine ⟨⟨n, tl [], h1, k1, ⟨[tl Lp], some (.mp m1)⟩⟩, Le.tl (Ls := [Lp]) (L := []) r (fun p hp => ?_) hh hlt hnd ⟨hsv, trivial⟩, rfl, rfl, rfl, rfl, _, rfl, hpin⟩
  simp at hp
end Go.Eng

set_option linter.unusedSimpArgs false
set_option linter.unusedVariables false
namespace Go.Eng
open Go Go.RowKit

/-- Rows stored into an own block. -/
theorem own_store {C : Ctx} {s : AState} {β : Bt} {a : Act} {w : World} (h : StR C s β a w) {n i m : Nat} {b : Blk} {l : List (List AV)} {cs : Array Value} {bb o e : Nat}
    (hb : find s.h n = some b) (hbb : β n = some (bb, o, e)) (hle2 : i + m ≤ b.l.length) (hl : l.length = m) (hrow : Row (XOf C.F β s.h) β w b.e l cs) (hone : ∀ v ∈ cs.toList, v.oneCell' = true) :
    e = b.e ∧ ∃ w', (storeCells ⟨bb, o + i * e, none⟩ cs.toList).run C.P w = .ok () w' ∧ StR C { s with h := setN s.h n ⟨b.e, b.l.take i ++ l ++ b.l.drop (i + m)⟩ } β a w' := by
  rcases h.look n b hb with ⟨b', o', c, t', p1, p2, p3, p4, p5⟩ | ⟨p1, p2⟩
  case inr => rw [hbb] at p2; cases p2
  rw [p1] at hbb; cases hbb
  have hcs : cs.size = m * b.e := by rw [hrow.2.1, hl]
  have hml : (i + m) * b.e ≤ b.l.length * b.e := Nat.mul_le_mul_right _ (by omega)
  rw [Nat.add_mul] at hml
  have hcs2 : cs.toList.length = m * b.e := by rw [Array.length_toList, hcs]
  have hst := run_storeCells_at C.P bb (o + i * b.e) t' cs.toList 0 c w p2 (by rw [hcs2]; omega) hone
  have hlen3 : (b.l.take i ++ l ++ b.l.drop (i + m)).length = b.l.length := by simp; omega
  refine ⟨rfl, w.setRow bb (c.toList.take (o + i * b.e + 0) ++ cs.toList ++ c.toList.drop (o + i * b.e + 0 + cs.toList.length)).toArray, by simpa using hst, ?_⟩
  refine h.write (c' := (c.toList.take (o + i * b.e + 0) ++ cs.toList ++ c.toList.drop (o + i * b.e + 0 + cs.toList.length)).toArray) hb (k' := ⟨b.e, _⟩) p1 p2 (setRow_heap w bb c _ t' _ p2) ?_ (fun q hq => setRow_other w bb q _ hq) (setRow_size _ _ _) rfl rfl rfl ?_ ?_ ?_
  · simp [hcs2] at *; omega
  · intro ch hch
    simp only [List.mem_append] at hch
    rcases hch with (hch | hch) | hch
    · exact p3 _ (List.mem_of_mem_take hch)
    · exact hrow.1 _ hch
    · exact p3 _ (List.mem_of_mem_drop hch)
  · simp only [hlen3]
    simp [hcs2] at *; omega
  · intro i' j ch s' hi hj
    dsimp only at hi ⊢
    have hcl : j < b.e := by
      have : ch.length = b.e := by
        have hch := List.mem_of_getElem? hi
        simp only [List.mem_append] at hch
        rcases hch with (hch | hch) | hch
        · exact p3 _ (List.mem_of_mem_take hch)
        · exact hrow.1 _ hch
        · exact p3 _ (List.mem_of_mem_drop hch)
      have := (List.getElem?_eq_some_iff.1 hj).1
      omega
    have hget : ∀ q, q < c.size → (c.toList.take (o + i * b.e + 0) ++ cs.toList ++ c.toList.drop (o + i * b.e + 0 + cs.toList.length)).toArray[q]? =
        if o + i * b.e ≤ q ∧ q < o + i * b.e + m * b.e then cs[q - (o + i * b.e)]? else c[q]? := by
      intro q hq
      simp only [List.getElem?_toArray, Nat.add_zero, List.append_assoc, hcs2]
      have hpos : o + i * b.e ≤ c.toList.length := by simp; omega
      by_cases q1 : q < o + i * b.e
      · rw [List.getElem?_append_left (by simp; omega), List.getElem?_take_of_lt q1, if_neg (by omega)]; simp
      · rw [List.getElem?_append_right (by simp; omega)]
        simp only [List.length_take, Nat.min_eq_left hpos]
        by_cases q2 : q < o + i * b.e + m * b.e
        · rw [List.getElem?_append_left (by rw [hcs2]; omega), if_pos ⟨by omega, q2⟩]; simp
        · rw [List.getElem?_append_right (by rw [hcs2]; omega), if_neg (by omega)]
          simp only [List.getElem?_drop, hcs2, Array.getElem?_toList]
          congr 1; omega
    have hil : i' < b.l.length := by rw [← hlen3]; exact (List.getElem?_eq_some_iff.1 hi).1
    have hle3 : (i' + 1) * b.e ≤ b.l.length * b.e := Nat.mul_le_mul_right _ hil
    rw [Nat.succ_mul] at hle3
    rw [hget _ (by omega)]
    by_cases g1 : i' < i
    · have hg : (i' + 1) * b.e ≤ i * b.e := Nat.mul_le_mul_right _ g1
      rw [Nat.succ_mul] at hg
      rw [if_neg (by omega)]
      refine p5 i' j ch s' ?_ hj
      rw [List.append_assoc, List.getElem?_append_left (by simp; omega), List.getElem?_take_of_lt g1] at hi
      exact hi
    · have hg : i * b.e ≤ i' * b.e := Nat.mul_le_mul_right _ (by omega)
      rw [List.append_assoc, List.getElem?_append_right (by simp; omega)] at hi
      simp only [List.length_take, Nat.min_eq_left (show i ≤ b.l.length by omega)] at hi
      by_cases g2 : i' < i + m
      · have hg2 : (i' + 1) * b.e ≤ (i + m) * b.e := Nat.mul_le_mul_right _ g2
        rw [Nat.succ_mul, Nat.add_mul] at hg2
        rw [if_pos (by omega)]
        rw [List.getElem?_append_left (by omega)] at hi
        obtain ⟨u, hu, hr⟩ := hrow.2.2 (i' - i) j ch s' hi hj
        refine ⟨u, ?_, hr⟩
        rw [← hu]; congr 1
        have : (i' - i) * b.e = i' * b.e - i * b.e := Nat.sub_mul _ _ _
        omega
      · have hg2 : (i + m) * b.e ≤ i' * b.e := Nat.mul_le_mul_right _ (by omega)
        rw [Nat.add_mul] at hg2
        rw [if_neg (by omega)]
        refine p5 i' j ch s' ?_ hj
        rw [List.getElem?_append_right (by omega)] at hi
        simp only [List.length_take, List.getElem?_drop] at hi
        rw [← hi]; congr 1; omega

/-- **clear** of a part of an own block. -/
theorem AtOp.clear {P : Program} {rec : List It → (AState → Prop) → AState → Prop} {o : Oper} {k : List It} {Q : AState → Prop} {s : AState} {t e : TypeId} {x : Operand} {n i len : Nat} {b : Blk} {zl : List Value}
    (ho : o.op = .call ⟨.builtin .clear, #[x], #[t]⟩) (ht : slT P t = some e) (hz0 : 0 < szT P e) (hzl : zeT P e = some zl) (hzs : zl.length = szT P e) (hzo : ∀ v ∈ zl, v.oneCell' = true)
    (hx : evA s.t x = .sl n i len) (hb : find s.h n = some b) (hbe : b.e = szT P e) (hle : i + len ≤ b.l.length) (hl0 : 0 < len)
    (hk : ∀ h', h' = setN s.h n ⟨b.e, b.l.take i ++ List.replicate len (zl.map .v) ++ b.l.drop (i + len)⟩ → rec k Q (putA { s with h := h' } o.dst (.t []))) : AtOp P rec o k Q s := by
  intro ro Cs next E hg hnext a w ⟨C, hC, β, h⟩
  have hP := hg.prog C hC
  subst hP
  have hd : ∀ c, o.op ≠ .defer c := by intro c hc; rw [ho] at hc; cases hc
  refine ⟨fun _ _ => trivial, ?_⟩
  rw [Oper.semAt_eq _ _ _ hd]
  have hr := h.read x
  rw [hx] at hr
  obtain ⟨zv, hz1, hz2⟩ := zeT_run (P := C.P) (w := w) hzl
  have hz2' : zv.cells = zl.toArray := by rw [← hz2]
  have hrow : Row (XOf C.F β s.h) β w b.e (List.replicate len (zl.map AV.v)) (Builtin.zeroCells zl.toArray len) := by
    refine ⟨fun c hc => by rw [List.eq_of_mem_replicate hc, hbe]; simp [hzs], by simp [Builtin.zeroCells, hzs, hbe], fun i j c s' hi hj => ?_⟩
    rw [List.getElem?_replicate] at hi
    split at hi
    case isFalse => cases hi
    rename_i hix; cases hi
    simp only [List.getElem?_map, Option.map_eq_some_iff] at hj
    obtain ⟨u, hu', rfl⟩ := hj
    have hjl : j < szT C.P e := by have := (List.getElem?_eq_some_iff.1 hu').1; omega
    have : (i + 1) * szT C.P e ≤ len * szT C.P e := Nat.mul_le_mul_right _ (by omega)
    rw [Nat.succ_mul] at this
    refine ⟨u, ?_, .v _⟩
    rw [hbe]
    have hmod : (i * szT C.P e + j) % szT C.P e = j := by rw [Nat.add_comm, Nat.add_mul_mod_self_right]; exact Nat.mod_eq_of_lt hjl
    have hlt : i * szT C.P e + j < len * szT C.P e := by omega
    obtain ⟨hjl', hju⟩ := List.getElem?_eq_some_iff.1 hu'
    simp [Builtin.zeroCells, hzs, hlt, hmod, hjl', hju, hu']
  have hone : ∀ v ∈ (Builtin.zeroCells zl.toArray len).toList, v.oneCell' = true := hrow.one (by omega) (fun ch hch q hq => by
    rw [List.eq_of_mem_replicate hch] at hq
    obtain ⟨v, hv, rfl⟩ := List.mem_map.1 hq
    exact hzo v hv)
  generalize hv : a.eval x = va at hr
  have key : ∃ w', (execOp a.eval o).run C.P w = .ok (.value (.tuple #[])) w' ∧ StR C { s with h := setN s.h n ⟨b.e, b.l.take i ++ List.replicate len (zl.map .v) ++ b.l.drop (i + len)⟩ } β a w' := by
    cases hr with
    | slz => exact absurd hl0 (Nat.lt_irrefl _)
    | sl hbb hl hsh hcap =>
      obtain ⟨he, w', hst, hS⟩ := own_store h hb hbb hle (by simp) hrow hone
      refine ⟨w', ?_, hS⟩
      obtain ⟨_, op, _, _, _, _⟩ := o
      simp only at ho; subst ho
      obtain ⟨len, rfl⟩ : ∃ q, len = q + 1 := ⟨len - 1, by omega⟩
      simp only [execOp, resolve, invoke, builtin, Builtin.clear_, hv, List.map_toArray, List.map_cons, List.map_nil, List.getElem?_toArray, List.getElem?_cons_zero, List.getElem?_cons_succ, Sem.run_bind, run_underlying (und_of_slT ht), Result.andThen_ok, Sem.run_pure, hz1, hz2', hst]
  obtain ⟨w', hrun, hst⟩ := key
  rw [hrun]
  exact hnext _ _ _ (hk _ rfl) ⟨C, hC, β, hst.put (.t rfl (fun j s' u hj => by simp at hj)) o.dst⟩
end Go.Eng

set_option linter.unusedSimpArgs false
set_option linter.unusedVariables false
namespace Go.Eng
open Go Go.RowKit

/-- Of each cell less is known. -/
def SubL (l l' : List (List AV)) : Prop := l.length = l'.length ∧ ∀ (i : Nat) (c c' : List AV), l[i]? = some c → l'[i]? = some c' → Subs c c'
theorem SubL.rep {c c' : List AV} (h : Subs c c') (n : Nat) : SubL (List.replicate n c) (List.replicate n c') :=
  ⟨by simp, fun i a a' ha ha' => by
    rw [List.getElem?_replicate] at ha ha'
    split at ha
    · rename_i hi; rw [if_pos hi] at ha'; cases ha; cases ha'; exact h
    · cases ha⟩
theorem SubL.one {c c' : List AV} (h : Subs c c') : SubL [c] [c'] := SubL.rep h 1
theorem SubL.set {l l' : List (List AV)} {c c' : List AV} (i : Nat) (h : SubL l l') (hc : Subs c c') : SubL (l.set i c) (l'.set i c') := by
  refine ⟨by rw [List.length_set, List.length_set, h.1], fun j a a' ha ha' => ?_⟩
  rw [List.getElem?_set] at ha ha'
  rw [← h.1] at ha'
  by_cases hi : i = j
  · subst hi
    rw [if_pos rfl] at ha ha'
    by_cases hl : i < l.length
    · rw [if_pos hl] at ha ha'; cases ha; cases ha'; exact hc
    · rw [if_neg hl] at ha; cases ha
  · rw [if_neg hi] at ha ha'
    exact h.2 j a a' ha ha'
theorem Le.hsub {n : Nat} {t : Nat → AV} {h : List (Nat × Blk)} {k : Nat} {x : Aux} (nm : Nat) {b : Blk} {l' : List (List AV)} (hb : find h nm = some b) (hs : SubL b.l l') :
    Le ⟨n, t, h, k, x⟩ ⟨n, t, setN h nm ⟨b.e, l'⟩, k, x⟩ := by
  rintro C a w ⟨β, hS⟩
  rcases hS.look nm b hb with ⟨b', o, c, t', p1, p2, p3, p4, p5⟩ | ⟨p1, p2⟩
  · refine ⟨β, hS.write (k' := ⟨b.e, l'⟩) hb p1 p2 p2 rfl (fun _ _ => rfl) rfl rfl rfl rfl (fun ch hch => ?_) (by simpa only [← hs.1] using p4) (fun i j ch s' hi hj => ?_)⟩
    · obtain ⟨i, hi⟩ := List.getElem?_of_mem hch
      have hlt : i < b.l.length := by rw [hs.1]; exact (List.getElem?_eq_some_iff.1 hi).1
      have h1 := hs.2 i _ _ (List.getElem?_eq_getElem hlt) hi
      rw [← h1.len]
      exact p3 _ (List.getElem_mem hlt)
    · dsimp only at hi ⊢
      have hlt : i < b.l.length := by rw [hs.1]; exact (List.getElem?_eq_some_iff.1 hi).1
      have h1 := hs.2 i _ _ (List.getElem?_eq_getElem hlt) hi
      have hjl : j < (b.l[i]).length := by rw [h1.len]; exact (List.getElem?_eq_some_iff.1 hj).1
      obtain ⟨u, hu, hr⟩ := p5 i j _ _ (List.getElem?_eq_getElem hlt) (List.getElem?_eq_getElem hjl)
      exact ⟨u, hu, h1.get j _ _ (List.getElem?_eq_getElem hjl) hj _ _ _ _ hr⟩
  · have : l' = [] := List.length_eq_zero_iff.1 (by rw [← hs.1, p1]; rfl)
    have hbl : (⟨b.e, l'⟩ : Blk) = b := by subst this; rw [← p1]
    have : setN h nm ⟨b.e, l'⟩ = h := by
      rw [hbl]
      unfold setN
      conv => rhs; rw [← List.map_id h]
      refine List.map_congr_left fun p hp => ?_
      split
      · rename_i e1
        have h1 : find h p.1 = some p.2 := fd_mem hS.nd hp
        have : p.2 = b := by rw [e1, hb] at h1; exact (Option.some.inj h1).symm
        simp only [id]
        rw [← e1, ← this]
      · rfl
    exact ⟨β, by rw [this]; exact hS⟩
theorem Sub.g {l l' : List AV} (h : Subs l l') : Sub (.g l) (.g l') := by
  intro X β w u hr
  cases hr with
  | g hl hR =>
    refine .g (by rw [← h.len]; exact hl) fun k s u hk hu => ?_
    have hlt : k < l.length := by rw [h.len]; exact (List.getElem?_eq_some_iff.1 hk).1
    exact h.get k _ _ (List.getElem?_eq_getElem hlt) hk _ _ _ _ (hR k _ u (List.getElem?_eq_getElem hlt) hu)
theorem Sub.t {l l' : List AV} (h : Subs l l') : Sub (.t l) (.t l') := by
  intro X β w u hr
  cases hr with
  | t hl hR =>
    refine .t (by rw [← h.len]; exact hl) fun k s u hk hu => ?_
    have hlt : k < l.length := by rw [h.len]; exact (List.getElem?_eq_some_iff.1 hk).1
    exact h.get k _ _ (List.getElem?_eq_getElem hlt) hk _ _ _ _ (hR k _ u (List.getElem?_eq_getElem hlt) hu)
end Go.Eng

set_option linter.unusedSimpArgs false
set_option linter.unusedVariables false
namespace Go.Eng
open Go Go.RowKit

/-- The cells of bytes. -/
def byC (l : List UInt8) : List (List AV) := l.map fun c => [.v (.int .u8 (c.toNat : Int))]
theorem drew_ext (w : World) : Ext w w.drew := ⟨rfl, rfl, rfl, Nat.le_refl _, fun _ _ => rfl⟩
/-- A string's bytes: only read. -/
theorem AtOp.s2b {P : Program} {rec : List It → (AState → Prop) → AState → Prop} {o : Oper} {k : List It} {Q : AState → Prop} {s : AState} {t u e : TypeId} {x : Operand} {b : ByteArray}
    (ho : o.op = .convert t u x) (ht : P.underlying t = some .string) (hu : P.underlying u = some (.slice e)) (he : P.underlying e = some (.int .u8)) (hx : evA s.t x = .v (.string b))
    (hk : rec k Q (putA s o.dst (.ro 1 (byC b.data.toList)))) : AtOp P rec o k Q s := by
  intro ro Cs next E hg hnext a w ⟨C, hC, β, h⟩
  have hP := hg.prog C hC
  subst hP
  have hd : ∀ c, o.op ≠ .defer c := by intro c hc; rw [ho] at hc; cases hc
  refine ⟨fun _ _ => trivial, ?_⟩
  rw [Oper.semAt_eq _ _ _ hd]
  have hr := h.read x
  rw [hx] at hr
  generalize hv : a.eval x = va at hr
  cases hr
  have hrun : (execOp a.eval o).run C.P w = .ok (.value (.slice (some ⟨w.heap.size, 0, none⟩) b.size (grownCap w b.size 0 e))) (w.drew.alloc (.cells (bytesRow b (grownCap w b.size 0 e)) e ((bytesRow b (grownCap w b.size 0 e)).size, (bytesRow b (grownCap w b.size 0 e)).size + 1))) := by
    obtain ⟨_, op, _, _, _, _⟩ := o
    simp only at ho; subst ho
    simp only [execOp, hv, Sem.run_bind, run_bytes_of_string w t u e b ht hu he, Result.andThen_ok, Sem.run_pure]
  rw [hrun]
  obtain ⟨w', hw'⟩ : ∃ w', w' = w.drew.alloc (.cells (bytesRow b (grownCap w b.size 0 e)) e ((bytesRow b (grownCap w b.size 0 e)).size, (bytesRow b (grownCap w b.size 0 e)).size + 1)) := ⟨_, rfl⟩
  have hext : Ext w w' := by rw [hw']; exact (drew_ext w).trans (Ext.push w.drew _)
  rw [← hw']
  have hheap : w'.heap[w.heap.size]? = some (.cells (bytesRow b (grownCap w b.size 0 e)) e ((bytesRow b (grownCap w b.size 0 e)).size, (bytesRow b (grownCap w b.size 0 e)).size + 1)) := by
    rw [hw']
    show (w.heap.push _)[w.heap.size]? = _
    simp
  have hX : ¬ XOf C.F β s.h w.heap.size := by
    rintro (hF | ⟨p, hp, o', e', hb⟩)
    · have := h.Flt _ hF
      have := h.fr.size
      omega
    · have := h.lt_size hp hb; omega
  have hcap := grownCap_ge w b.size 0 e
  have hlen : (byC b.data.toList).length = b.size := by unfold byC; rw [List.length_map, Array.length_toList]; rfl
  have hR : RS (XOf C.F β s.h) β w' (.ro 1 (byC b.data.toList)) (.slice (some ⟨w.heap.size, 0, none⟩) b.size (grownCap w b.size 0 e)) := by
    rw [← hlen]
    refine RS.ro (fun k => .int .u8 ((b.data.toList.getD k 0).toNat : Int)) hX ⟨_, _, _, hheap⟩ (by rw [hlen]; exact hcap) (fun c hc => ?_) (fun k hk => ?_) (fun i j c s' hi hj => ?_)
    · obtain ⟨z, _, rfl⟩ := List.mem_map.1 hc; rfl
    · rw [hlen, Nat.mul_one] at hk
      have hk' : k < b.data.size := hk
      rw [Nat.zero_add]
      simp only [World.cell?, hheap]
      have : (bytesRow b (grownCap w b.size 0 e))[k]? = some (.int .u8 ((b.data.toList.getD k 0).toNat : Int)) := by
        unfold bytesRow
        rw [Array.getElem?_append_left (by simpa using hk'), Array.getElem?_map, Array.getElem?_eq_getElem hk']
        have e1 : b.data.toList.getD k 0 = b.data[k] := by
          rw [List.getD, Array.getElem?_toList, Array.getElem?_eq_getElem hk']; rfl
        rw [e1]; rfl
      simpa using this
    · unfold byC at hi
      rw [List.getElem?_map] at hi
      cases hz : b.data.toList[i]? with
      | none => rw [hz] at hi; cases hi
      | some z =>
        rw [hz] at hi; cases hi
        have hj0 : j = 0 := by
          have := (List.getElem?_eq_some_iff.1 hj).1
          simp at this; omega
        subst hj0
        cases hj
        have : b.data.toList.getD i 0 = z := by rw [List.getD, hz]; rfl
        rw [Nat.mul_one, Nat.add_zero, this]
        exact .v _
  exact hnext _ _ _ hk ⟨C, hC, β, (h.ext hext).put hR o.dst⟩
/-- Bytes as a string. -/
theorem AtOp.b2s {P : Program} {rec : List It → (AState → Prop) → AState → Prop} {o : Oper} {k : List It} {Q : AState → Prop} {s : AState} {t u e : TypeId} {x : Operand} {l : List Int}
    (ho : o.op = .convert t u x) (ht : P.underlying t = some (.slice e)) (hu : P.underlying u = some .string) (he : P.underlying e = some (.int .u8)) (hns : ∀ b, evA s.t x ≠ .v (.string b)) (hx : srcK (find s.h) 1 (evA s.t x) (· = l.map fun n => [.v (.int .u8 n)]))
    (hk : rec k Q (putA s o.dst (.v (.string ⟨(l.map fun n => UInt8.ofNat n.toNat).toArray⟩)))) : AtOp P rec o k Q s := by
  intro ro Cs next E hg hnext a w ⟨C, hC, β, h⟩
  have hP := hg.prog C hC
  subst hP
  have hd : ∀ c, o.op ≠ .defer c := by intro c hc; rw [ho] at hc; cases hc
  refine ⟨fun _ _ => trivial, ?_⟩
  rw [Oper.semAt_eq _ _ _ hd]
  have hr := h.read x
  obtain ⟨l', cs, hl', hlen, hfirst, hrow⟩ := srcK_sound h hr hx
  subst hl'
  have hll : (l.map fun n => [AV.v (.int .u8 n)]).length = l.length := by simp
  have hcs : cs = (l.map (Value.int .u8)).toArray := by
    refine Array.ext_getElem? fun i => ?_
    by_cases hi : i < l.length
    · obtain ⟨u, hu, hRu⟩ := hrow.2.2 i 0 [AV.v (.int .u8 l[i])] (.v (.int .u8 l[i])) (by simp [hi]) rfl
      rw [Nat.mul_one, Nat.add_zero] at hu
      cases hRu
      rw [hu]; simp [hi]
    · have := hrow.2.1
      rw [Array.getElem?_eq_none (by rw [this]; simp; omega), Array.getElem?_eq_none (by simp; omega)]
  generalize hv : a.eval x = va at hr hlen hfirst
  have hrun : (execOp a.eval o).run C.P w = .ok (.value (.string ⟨(l.map fun n => UInt8.ofNat n.toNat).toArray⟩)) w := by
    have key : (convert t u va).run C.P w = .ok (.string ⟨(l.map fun n => UInt8.ofNat n.toNat).toArray⟩) w := by
      cases va with
      | slice ad n c =>
        have hn : n = l.length := by simp [Builtin.lenOf] at hlen; exact hlen
        subst hn
        rw [run_convert_bytes_string w t u e ad _ c ht he hu]
        cases ad with
        | none =>
          have h0 := hfirst w rfl
          simp only [Builtin.firstCells, Sem.run_pure, Result.ok.injEq, and_true] at h0
          have : l = [] := by
            have h1 := hrow.2.1
            rw [← h0] at h1
            simp at h1
            exact List.eq_nil_of_length_eq_zero h1.symm
          subst this
          simp [Conv.bytesToString]
          rfl
        | some ad =>
          have h0 := hfirst w rfl
          simp only [Builtin.firstCells, Nat.mul_one, hll] at h0
          rw [hcs] at h0
          rw [run_bytesToString w ad l.length c l h0, foldl_push_bytes]
          simp [ByteArray.empty, ByteArray.emptyWithCapacity]
          rfl
      | string b =>
        exfalso
        generalize hxx : evA s.t x = xa at hr hns hx
        cases hr
        · exact hns _ rfl
        all_goals exact hx
      | _ => simp [Builtin.lenOf] at hlen
    obtain ⟨_, op, _, _, _, _⟩ := o
    simp only at ho; subst ho
    simp only [execOp, hv, Sem.run_bind, key, Result.andThen_ok, Sem.run_pure]
  rw [hrun]
  exact hnext _ _ _ hk ⟨C, hC, β, h.put (.v _) o.dst⟩
section
variable {P : Program} {rec : List It → (AState → Prop) → AState → Prop} {o : Oper} {k : List It} {Q : AState → Prop} {n : Nat} {t : Nat → AV} {h : List (Nat × Blk)} {kk : Nat} {sv : List (Nat → AV)}
/-- A string's iterator is made. -/
theorem AtOp.rangeS {m : Mp} {t0 : TypeId} {x : Operand} {b : ByteArray} (ho : o.op = .range t0 x) (ht : P.underlying t0 = some .string) (hx : evA t x = .v (.string b))
    (hk : ∀ r, rec k Q (putA ⟨n, t, h, kk, ⟨sv, some (.mp (some (r, .str b 0)))⟩⟩ o.dst (.v (.pointer (some ⟨r, 0, none⟩))))) : AtOp P rec o k Q ⟨n, t, h, kk, ⟨sv, some (.mp m)⟩⟩ := by
  intro ro Cs next E hg hnext a w ⟨C, hC, β, hs⟩
  have hP := hg.prog C hC
  subst hP
  refine ⟨fun _ _ => trivial, ?_⟩
  rw [Oper.semAt_eq _ _ _ (fun c hc => by rw [ho] at hc; cases hc)]
  have hy : C.y = some (.mp m) := hs.yy.symm
  have rx := hs.read x
  simp only [hx] at rx
  have e1 : a.eval x = .string b := by cases hh : a.eval x <;> rw [hh] at rx <;> cases rx <;> rfl
  have hrun : (execOp a.eval o).run C.P w = .ok (.value (.pointer (some ⟨w.heap.size, 0, none⟩))) (w.alloc (.stringIter b 0)) := by
    obtain ⟨_, op, _, _, _, _⟩ := o
    simp only at ho; subst ho
    simp [execOp, Instr.range, e1, run_underlying ht]
  rw [hrun]
  have hext : Ext w (w.alloc (.stringIter b 0)) := ⟨rfl, rfl, rfl, by rw [World.size_alloc]; omega, fun b hb => Below.heap_alloc _ _ _ hb⟩
  have hs' := hs.ext hext
  refine hnext _ _ _ (hk w.heap.size) ⟨_, hg.mpd C m (some (w.heap.size, .str b 0)) hC hy, β, StR.put (hs'.setC (C' := { C with y := some (.mp (some (w.heap.size, .str b 0))) }) rfl rfl rfl rfl rfl ⟨hs'.defers.marks, hs'.defers.nd, hs'.defers.rd, fun b l hb => ?_⟩) (.v _) o.dst⟩
  simp only [Option.some.injEq, Yl.mp.injEq, Prod.mk.injEq] at hb
  obtain ⟨rfl, rfl⟩ := hb
  exact ⟨World.alloc_heap_new w _, .inl hs.fr.size, fun hF => by have := hs.Flt _ hF; have := hs.fr.size; omega⟩
/-- The next character of a string. -/
theorem AtOp.nextS {x : Operand} {r pos : Nat} {b : ByteArray} (ho : o.op = .next x true) (hx : evA t x = .v (.pointer (some ⟨r, 0, none⟩)))
    (hk : if pos < b.size then rec k Q (putA ⟨n, t, h, kk, ⟨sv, some (.mp (some (r, .str b (pos + (Utf8.decode b pos).2))))⟩⟩ o.dst (.t [.v (.bool true), .v (goInt pos), .v (.int .i32 (Utf8.decode b pos).1)]))
      else rec k Q (putA ⟨n, t, h, kk, ⟨sv, some (.mp (some (r, .str b pos)))⟩⟩ o.dst (.t [.v (.bool false)]))) : AtOp P rec o k Q ⟨n, t, h, kk, ⟨sv, some (.mp (some (r, .str b pos)))⟩⟩ := by
  intro ro Cs next E hg hnext a w ⟨C, hC, β, hs⟩
  have hP := hg.prog C hC
  subst hP
  refine ⟨fun _ _ => trivial, ?_⟩
  rw [Oper.semAt_eq _ _ _ (fun c hc => by rw [ho] at hc; cases hc)]
  have hy : C.y = some (.mp (some (r, .str b pos))) := hs.yy.symm
  have rx := hs.read x
  simp only [hx] at rx
  have e1 : a.eval x = .pointer (some ⟨r, 0, none⟩) := by cases hh : a.eval x <;> rw [hh] at rx <;> cases rx <;> rfl
  obtain ⟨g1, g2, g3⟩ := hs.defers.mp r _ hy
  have g1' : w.heap[r]? = some (.stringIter b pos) := g1
  have hget : (getObj r).run C.P w = .ok (.stringIter b pos) w := by simp [getObj, Sem.run, g1']
  have hset : ∀ ob, (setObj r ob).run C.P w = .ok () (w.putObj r ob) := fun ob => by simp [setObj, Sem.run, g1', World.putObj]
  by_cases hp : pos < b.size
  · rw [if_pos hp] at hk
    obtain ⟨q, hq⟩ : ∃ q, q = Utf8.decode b pos := ⟨_, rfl⟩
    rw [← hq] at hk
    have hrun : (execOp a.eval o).run C.P w = .ok (.value (.tuple #[.bool true, goInt pos, .int .i32 q.1])) (w.putObj r (mpO (.str b (pos + q.2)))) := by
      obtain ⟨_, op, _, _, _, _⟩ := o
      simp only at ho; subst ho
      simp only [execOp, Instr.next, e1, Sem.run_bind, hget, Result.andThen_ok, hp, if_true, ← hq, hset, Sem.run_pure, mpO]
    rw [hrun]
    have hno : ∀ c t q, mpO (.str b pos) ≠ .cells c t q := fun _ _ _ => mpO_c _ _ _ _
    have hoff := off_put (o' := mpO (.str b (pos + q.2))) g1 hno
    have hfr : Fr C.Pm C.W (w.putObj r (mpO (.str b (pos + q.2)))) := hs.fr.put g1 hno g2
    have hne : ∀ (D : Nat) (ob : Obj), w.heap[D]? = some ob → (∀ l, ob ≠ mpO l) → (w.putObj r (mpO (.str b (pos + q.2)))).heap[D]? = some ob := fun D ob hD hn => by
      rw [World.putObj_heap_other]
      · exact hD
      · intro e; subst e; rw [g1] at hD; exact hn _ (Option.some.inj hD).symm
    have hfin : StR { C with y := some (.mp (some (r, .str b (pos + q.2)))) } ⟨n, t, h, kk, ⟨sv, some (.mp (some (r, .str b (pos + q.2))))⟩⟩ β a (w.putObj r (mpO (.str b (pos + q.2)))) := by
      refine hs.conv (C' := { C with y := some (.mp (some (r, .str b (pos + q.2)))) }) (fun x u hr => hr.off hoff) (fun q hq => hoff q (hs.own_isC hq)) ⟨fun d hd => ?_, hs.defers.nd, fun q hq => ?_, fun b' l'' hb => ?_⟩ hs.size (fun i => (hs.tm i).off hoff) (fun q ⟨p, hp, o, e, hq⟩ => hs.mine p hp q o e hq) hfr hs.Flt ⟨hs.sv.1, fun j f g hf hg i => (hs.sv.2 j f g hf hg i).off hoff⟩ rfl
      · obtain ⟨D, h1, h2, h3, h4⟩ := hs.defers.marks d hd
        exact ⟨D, h1, hne D _ h2 (fun l => by cases l <;> simp [mpO]), h3, h4⟩
      · obtain ⟨⟨r, hr⟩, hF⟩ := hs.defers.rd q hq
        exact ⟨⟨r, hne q _ hr (fun l => by cases l <;> simp [mpO])⟩, hF⟩
      · simp only [Option.some.injEq, Yl.mp.injEq, Prod.mk.injEq] at hb
        obtain ⟨rfl, rfl⟩ := hb
        exact ⟨World.putObj_heap_same (lt_of_get g1), g2, g3⟩
    refine hnext _ _ _ hk ⟨_, hg.mpd C _ (some (r, .str b (pos + q.2))) hC hy, β, hfin.put (.t rfl fun i s u hi hu => ?_) o.dst⟩
    match i with
    | 0 => simp at hi hu; subst hi; subst hu; exact .v _
    | 1 => simp at hi hu; subst hi; subst hu; exact .v _
    | 2 => simp at hi hu; subst hi; subst hu; exact .v _
    | i + 3 => simp at hi
  · rw [if_neg hp] at hk
    have hrun : (execOp a.eval o).run C.P w = .ok (.value (.tuple #[.bool false])) w := by
      obtain ⟨_, op, _, _, _, _⟩ := o
      simp only at ho; subst ho
      simp only [execOp, Instr.next, e1, Sem.run_bind, hget, Result.andThen_ok, hp, if_false, Sem.run_pure]
    rw [hrun]
    refine hnext _ _ _ hk ⟨C, hC, β, hs.put (.t rfl fun i s u hi hu => ?_) o.dst⟩
    match i with
    | 0 => simp at hi hu; subst hi; subst hu; exact .v _
    | i + 1 => simp at hi
end
end Go.Eng

set_option linter.unusedSimpArgs false
set_option linter.unusedVariables false
namespace Go.Eng
open Go Go.RowKit

def Gh (s : AState) (n : Nat) (T : TypeId) : Prop := (∃ i, s.t i = .tb n T) ∨ ∃ (j : Nat) (f : Nat → AV) (i : Nat), s.x.sv[j]? = some f ∧ f i = .tb n T
def updS : List (Nat → AV) → Nat → Nat → AV → List (Nat → AV)
  | [], _, _, _ => []
  | f :: l, 0, i, x => upd f i x :: l
  | f :: l, j + 1, i, x => f :: updS l j i x
/-- Put into an own slot (0) or a saved one. -/
def putG (s : AState) : Nat → Nat → AV → AState
  | 0, i, x => ⟨s.n, upd s.t i x, s.h, s.k, s.x⟩
  | j + 1, i, x => ⟨s.n, s.t, s.h, s.k, ⟨updS s.x.sv j i x, s.x.y⟩⟩
theorem g_put0 (n : Nat) (t : Nat → AV) (h : List (Nat × Blk)) (k : Nat) (x : Aux) (i : Nat) (v : AV) : putG ⟨n, t, h, k, x⟩ 0 i v = ⟨n, upd t i v, h, k, x⟩ := rfl
theorem g_put1 (n : Nat) (t f : Nat → AV) (h : List (Nat × Blk)) (k : Nat) (sv : List (Nat → AV)) (y : Option Yl) (i : Nat) (v : AV) : putG ⟨n, t, h, k, ⟨f :: sv, y⟩⟩ 1 i v = ⟨n, t, h, k, ⟨upd f i v :: sv, y⟩⟩ := rfl
section
variable {C : Ctx} {s : AState} {β : Bt} {a : Act} {w : World}
theorem Gh.sound (h : StR C s β a w) {n : Nat} {T : TypeId} (hg : Gh s n T) : ∃ b e m, β n = some (b, 0, e) ∧ w.shape? b = some (T, m) := by
  rcases hg with ⟨i, hi⟩ | ⟨j, f, i, hj, hi⟩
  · have h1 := h.tm i
    rw [hi] at h1
    cases h1 with | tb h1 h2 => exact ⟨_, _, _, h1, h2⟩
  · have hl := h.sv.1
    have hlt : j < C.sv.length := by rw [← hl]; exact (List.getElem?_eq_some_iff.1 hj).1
    have h1 := h.sv.2 j f _ hj (List.getElem?_eq_getElem hlt) i
    rw [hi] at h1
    cases h1 with | tb h1 h2 => exact ⟨_, _, _, h1, h2⟩
theorem updS_len : ∀ (l : List (Nat → AV)) (j i : Nat) (x : AV), (updS l j i x).length = l.length
  | [], _, _, _ => rfl
  | f :: l, 0, _, _ => rfl
  | f :: l, j + 1, i, x => by simp [updS, updS_len l j i x]
theorem updS_get : ∀ (l : List (Nat → AV)) (j i : Nat) (x : AV) (q : Nat) (f : Nat → AV), (updS l j i x)[q]? = some f → ∃ g, l[q]? = some g ∧ (f = g ∨ f = upd g i x)
  | [], _, _, _, _, _, h => by simp [updS] at h
  | g :: l, 0, i, x, 0, f, h => by simp [updS] at h; exact ⟨g, rfl, .inr h.symm⟩
  | g :: l, 0, i, x, q + 1, f, h => ⟨f, by simpa [updS] using h, .inl rfl⟩
  | g :: l, j + 1, i, x, 0, f, h => by simp [updS] at h; exact ⟨g, rfl, .inl h.symm⟩
  | g :: l, j + 1, i, x, q + 1, f, h => by simpa using updS_get l j i x q f (by simpa [updS] using h)
theorem StR.putG (h : StR C s β a w) {n b e m : Nat} {T : TypeId} (hb : β n = some (b, 0, e)) (hs : w.shape? b = some (T, m)) (j i : Nat) : StR C (Eng.putG s j i (.tb n T)) β a w := by
  have hup : ∀ (f : Nat → AV) (g : Nat → Value), (∀ i, RS (XOf C.F β s.h) β w (f i) (g i)) → ∀ q, RS (XOf C.F β s.h) β w (upd f i (.tb n T) q) (g q) := fun f g hfg q => by
    unfold upd
    split
    · exact .tb hb hs
    · exact hfg q
  match j with
  | 0 => exact ⟨h.defers, h.size, fun q => hup s.t (fun q => a.tmps.getD q undef) h.tm q, h.own, h.lt, h.βlt, h.nd, h.inj, h.mine, h.fr, h.Flt, h.sv, h.yy⟩
  | j + 1 =>
    refine ⟨h.defers, h.size, h.tm, h.own, h.lt, h.βlt, h.nd, h.inj, h.mine, h.fr, h.Flt, ⟨by show (updS s.x.sv j i (.tb n T)).length = _; rw [updS_len]; exact h.sv.1, fun q f g hf hg => ?_⟩, h.yy⟩
    obtain ⟨f', hf', hf2⟩ := updS_get _ _ _ _ _ _ hf
    rcases hf2 with rfl | rfl
    · exact h.sv.2 q f g hf' hg
    · exact hup f' g (h.sv.2 q f' g hf' hg)
/-- An own block that is changed beyond what is known, and let go. -/
theorem StR.lose (h : StR C s β a w) {n b o e : Nat} {k : Blk} {w' : World} (hk : find s.h n = some k) (hb : β n = some (b, o, e)) (hC : IsC w b) (hoth : ∀ q, q ≠ b → w'.heap[q]? = w.heap[q]?)
    (hz : w'.heap.size = w.heap.size) (h1 : w'.os = w.os) (h2 : w'.tape = w.tape) (h3 : w'.output = w.output) (hsh : ∀ q t m, w.shape? q = some (t, m) → w'.shape? q = some (t, m)) : StR C { s with h := dropN [n] s.h } β a w' := by
  have hmem := find_mem hk
  have hXb : XOf C.F β s.h b := .inr ⟨(n, k), hmem, o, e, hb⟩
  have hX : ∀ b, XOf C.F β (dropN [n] s.h) b → XOf C.F β s.h b := fun b hb => by
    rcases hb with hb | ⟨p, hp, r⟩
    · exact .inl hb
    · exact .inr ⟨p, (mem_dropN.1 hp).1, r⟩
  have m : Mono (XOf C.F β s.h) β w (XOf C.F β (dropN [n] s.h)) β w' := ⟨fun b h1 h2 => absurd (hX b h1) h2, fun _ _ h => h, by omega, fun q _ hq => hoth q (fun e => hq (e ▸ hXb)), hsh⟩
  refine ⟨h.defers.keep fun D _ hD ho _ => hoth D (fun e => ?_), h.size, fun i => (h.tm i).mono m, fun p hp => ?_, fun p hp => h.lt p (mem_dropN.1 hp).1, h.βlt, ?_,
    fun p hp q hq => h.inj p (mem_dropN.1 hp).1 q (mem_dropN.1 hq).1, fun p hp => h.mine p (mem_dropN.1 hp).1, ?_, h.Flt, h.sv.mono m, h.yy⟩
  · subst e
    obtain ⟨c, t, q, hc⟩ := hC
    rw [hc] at hD; cases hD; exact ho _ _ _ rfl
  · have hp' := mem_dropN.1 hp
    refine (h.own p hp'.1).mono m (fun b1 o1 e1 hb1 => hoth b1 (fun e2 => ?_)) (fun h => h)
    subst e2
    have := h.inj p hp'.1 (n, k) hmem b1 o1 e1 o e hb1 hb
    exact hp'.2 (by rw [this]; exact List.mem_singleton.2 rfl)
  · exact List.Nodup.sublist (List.Sublist.map _ List.filter_sublist) h.nd
  · have hmine := h.mine (n, k) hmem b o e hb
    refine ⟨h1.trans h.fr.os, h2.trans h.fr.tape, h3.trans h.fr.output, by rw [hz]; exact h.fr.size, fun q hq hp => ?_, fun q t' m hs => hsh q t' m (h.fr.shape q t' m hs)⟩
    have hqb : q ≠ b := fun e => by
      subst e
      rcases hmine.1 with h' | h'
      · omega
      · exact hp h'
    rw [hoth q hqb]; exact h.fr.block q hq hp
end

section
variable {P : Program} {rec : List It → (AState → Prop) → AState → Prop} {o : Oper} {k : List It} {Q : AState → Prop} {s : AState}

/-- A call of a function without text. -/
theorem AtFn.ext {f : FuncId} {as : List AV} {fn : Func} {e : Array Value → Sem Value} {us : List Value} {v : Value} (hf : P.funcs[f]? = some fn) (hname : (fn.name == "runtime.NumGoroutine") = false) (hb : fn.body.isNone = true) (hn : Extern.findNext fn = none) (he : Extern.find fn = some e)
    (has : as = us.map .v) (hrun : ∀ w, (e us.toArray).run P w = .ok v w) (hk : force (putA s o.dst (.v v)) fun s' => rec k Q s') : AtFn P rec o f as k Q s := by
  rintro ⟨fo, xs, ats, caps, ho, hfo, rfl⟩ ro Cs next E hg hnext a w ⟨C, hC, β, hs⟩
  have hP := hg.prog C hC
  subst hP
  refine ⟨fun _ _ => trivial, ?_⟩
  rw [Oper.semAt_eq _ _ _ (fun c hc => by rw [ho] at hc; cases hc)]
  have hfr := hs.read fo
  rw [hfo] at hfr
  generalize hv : a.eval fo = va at hfr
  cases hfr with
  | fn hl hR =>
    rename_i vs
    obtain ⟨ha1, ha2⟩ := args_get (fun x => hs.read x) xs
    have hus : xs.map a.eval ++ vs = us.toArray := by
      have hlen : (xs.map a.eval ++ vs).size = us.length := by
        have := congrArg List.length has
        simp at this hl ⊢; omega
      refine Array.ext_getElem? fun q => ?_
      by_cases hq : q < us.length
      · have hq1 : q < (xs.map a.eval ++ vs).size := by omega
        have hx : (xs.toList.map (evA s.t) ++ caps)[q]? = some (.v us[q]) := by rw [has]; simp [hq]
        have hrs : RS (XOf C.F β s.h) β w (.v us[q]) (xs.map a.eval ++ vs)[q] := by
          by_cases hq2 : q < (xs.toList.map (evA s.t)).length
          · rw [List.getElem?_append_left hq2] at hx
            refine ha2 q _ _ hx ?_
            rw [← Array.getElem?_append_left (ys := vs) (by omega)]
            exact Array.getElem?_eq_getElem hq1
          · rw [List.getElem?_append_right (by omega)] at hx
            refine hR _ _ _ hx ?_
            have e1 : (xs.toList.map (evA s.t)).length = (xs.map a.eval).size := ha1
            rw [e1, ← Array.getElem?_append_right (by omega)]
            exact Array.getElem?_eq_getElem hq1
        generalize hu : (xs.map a.eval ++ vs)[q] = u at hrs
        cases hrs
        rw [Array.getElem?_eq_getElem hq1, hu]
        simp [hq]
      · rw [Array.getElem?_eq_none (by omega), Array.getElem?_eq_none (by simp; omega)]
    have hrun' : (execOp a.eval o).run C.P w = .ok (.value v) w := by
      obtain ⟨_, op, _, _, _, _⟩ := o
      simp only at ho; subst ho
      have hcf := run_callFunc_extern hf hname hb hn he us.toArray w
      rw [hrun] at hcf
      simp only [Result.andThen_ok] at hcf
      simp [execOp, resolve, hv, Deferred.ofValue, invoke, hus, hcf]
    rw [hrun']
    exact hnext _ _ _ hk ⟨C, hC, β, hs.put (.v _) o.dst⟩
/-- A call of a function without text that gives its argument back. -/
theorem AtFn.same {f : FuncId} {x : AV} {fn : Func} (hf : P.funcs[f]? = some fn) (hname : (fn.name == "runtime.NumGoroutine") = false) (hb : fn.body.isNone = true) (hn : Extern.findNext fn = none) (he : Extern.find fn = some Extern.AbiNoEscape.same)
    (hk : force (putA s o.dst x) fun s' => rec k Q s') : AtFn P rec o f [x] k Q s := by
  rintro ⟨fo, xs, ats, caps, ho, hfo, has⟩ ro Cs next E hg hnext a w ⟨C, hC, β, hs⟩
  have hP := hg.prog C hC
  subst hP
  refine ⟨fun _ _ => trivial, ?_⟩
  rw [Oper.semAt_eq _ _ _ (fun c hc => by rw [ho] at hc; cases hc)]
  have hfr := hs.read fo
  rw [hfo] at hfr
  generalize hv : a.eval fo = va at hfr
  cases hfr with
  | fn hl hR =>
    rename_i vs
    obtain ⟨ha1, ha2⟩ := args_get (fun x => hs.read x) xs
    have hlen : (xs.map a.eval ++ vs).size = 1 := by
      have := congrArg List.length has
      simp at this hl ⊢; omega
    obtain ⟨u, hu⟩ : ∃ u, xs.map a.eval ++ vs = #[u] := by
      generalize xs.map a.eval ++ vs = zs at hlen
      match zs, hlen with
      | ⟨[u]⟩, _ => exact ⟨u, rfl⟩
    have hx : (xs.toList.map (evA s.t) ++ caps)[0]? = some x := by rw [← has]; rfl
    have h0 : (xs.map a.eval ++ vs)[0]? = some u := by rw [hu]; rfl
    have hrs : RS (XOf C.F β s.h) β w x u := by
      by_cases hq2 : 0 < (xs.toList.map (evA s.t)).length
      · rw [List.getElem?_append_left hq2] at hx
        rw [Array.getElem?_append_left (by simpa using hq2)] at h0
        exact ha2 0 _ _ hx h0
      · rw [List.getElem?_append_right (by omega)] at hx
        rw [Array.getElem?_append_right (by simpa using hq2)] at h0
        have e1 : (xs.toList.map (evA s.t)).length = (xs.map a.eval).size := ha1
        rw [← e1] at h0
        exact hR _ _ _ hx h0
    have hrun' : (execOp a.eval o).run C.P w = .ok (.value u) w := by
      obtain ⟨_, op, _, _, _, _⟩ := o
      simp only at ho; subst ho
      have hcf := run_callFunc_extern hf hname hb hn he #[u] w
      rw [Lib.run_noEscape] at hcf
      simp only [Result.andThen_ok] at hcf
      simp [execOp, resolve, hv, Deferred.ofValue, invoke, hu, hcf]
    rw [hrun']
    exact hnext _ _ _ hk ⟨C, hC, β, hs.put hrs o.dst⟩

/-- A block is made whose type is known from then on. -/
theorem AtOp.allocT {t : TypeId} (j i : Nat) (ho : o.op = .alloc t) (hk : optK (zeT P t) fun z => force (putA (pushA s ⟨z.length, [z.map .v]⟩) o.dst (.ptr s.k 0 0)) fun s1 => force (putG s1 j i (.tb s.k t)) fun s2 => rec k Q s2) : AtOp P rec o k Q s := by
  intro ro Cs next E hg hnext a w ⟨C, hC, β, h⟩
  have hP := hg.prog C hC
  subst hP
  have hd : ∀ c, o.op ≠ .defer c := by intro c hc; rw [ho] at hc; cases hc
  refine ⟨fun _ _ => trivial, ?_⟩
  rw [Oper.semAt_eq _ _ _ hd]
  cases hz : zeT C.P t with
  | none => rw [hz] at hk; exact hk.elim
  | some z =>
    rw [hz] at hk
    obtain ⟨zv, hzr, hze⟩ := zeT_run (w := w) hz
    have hrun : (execOp a.eval o).run C.P w = .ok (.value (.pointer (some ⟨w.heap.size, 0, none⟩))) { w with heap := w.heap.push (.cells zv.cells t (0, 0)) } := by
      obtain ⟨_, op, _, _, _, _⟩ := o
      simp only at ho; subst ho
      simp [execOp, Instr.alloc, newVar, newRow, hzr]
    rw [hrun]
    have hp := h.push (k := ⟨z.length, [z.map .v]⟩) (c := zv.cells) (t := t) ⟨by simp, by simp [← hze], fun i j ch s hi hj => by
      match i with
      | 0 =>
        simp at hi; subst hi
        simp only [← hze, List.getElem?_map, Option.map_eq_some_iff, Array.getElem?_toList] at hj
        obtain ⟨u, hu, rfl⟩ := hj
        exact ⟨u, by simpa using hu, .v _⟩
      | i + 1 => simp at hi⟩
    have hb : updB β s.k (w.heap.size, 0, z.length) s.k = some (w.heap.size, 0, z.length) := by simp [updB]
    have hsh : ({ w with heap := w.heap.push (.cells zv.cells t (0, 0)) } : World).shape? w.heap.size = some (t, zv.cells.size) := by simp [World.shape?]
    have hv : RS (XOf C.F (updB β s.k (w.heap.size, 0, z.length)) (pushA s ⟨z.length, [z.map .v]⟩).h) (updB β s.k (w.heap.size, 0, z.length)) { w with heap := w.heap.push (.cells zv.cells t (0, 0)) } (.ptr s.k 0 0) (.pointer (some ⟨w.heap.size, 0, none⟩)) := by
      simpa using RS.ptr (i := 0) (j := 0) hb
    exact hnext _ _ _ hk ⟨C, hC, _, (hp.put hv o.dst).putG hb hsh j i⟩

theorem ptr_at {C : Ctx} {β : Bt} {a : Act} {w : World} (h : StR C s β a w) {n b e m e2 : Nat} {T : TypeId} {c : List AV} {l : List (List AV)} {u : Value} (hb : β n = some (b, 0, e)) (hs : w.shape? b = some (T, m)) (hf : find s.h n = some ⟨e2, c :: l⟩) (hr : RS (XOf C.F β s.h) β w (.ptr n 0 0) u) :
    u = .pointer (some ⟨b, 0, none⟩) ∧ e2 ≤ m := by
  refine ⟨?_, ?_⟩
  · obtain ⟨b', o', h1, h2⟩ := hr.ptr_inv hb
    rw [hb] at h1
    simp only [Option.some.injEq, Prod.mk.injEq] at h1
    obtain ⟨rfl, rfl, _⟩ := h1
    simpa using h2
  · rcases h.look n _ hf with ⟨b', o', c', t', p1, p2, p3, p4, p5⟩ | ⟨p1, p2⟩
    · rw [hb] at p1
      simp only [Option.some.injEq, Prod.mk.injEq] at p1
      obtain ⟨rfl, rfl, rfl⟩ := p1
      simp only [World.shape?, p2, Option.some.injEq, Prod.mk.injEq] at hs
      simp only [List.length_cons, Nat.succ_mul] at p4
      omega
    · simp at p1
/-- A pointer as an unsafe one. -/
theorem AtOp.toU {tp tu T T2 : TypeId} {x : Operand} {n e2 : Nat} {c : List AV} {l : List (List AV)} (ho : o.op = .convert tp tu x) (h1 : P.underlying tp = some (.pointer T)) (h2 : P.underlying tu = some .unsafePointer) (h3 : ((P.info? T).any fun j => decide (j.size ≠ 0)) = true)
    (hx : evA s.t x = .ptr n 0 0) (hg' : Gh s n T2) (hf : find s.h n = some ⟨e2, c :: l⟩) (he : 0 < e2) (hk : force (putA s o.dst (.ptr n 0 0)) fun s1 => rec k Q s1) : AtOp P rec o k Q s := by
  intro ro Cs next E hg hnext a w ⟨C, hC, β, h⟩
  have hP := hg.prog C hC
  subst hP
  have hd : ∀ c, o.op ≠ .defer c := by intro c hc; rw [ho] at hc; cases hc
  refine ⟨fun _ _ => trivial, ?_⟩
  rw [Oper.semAt_eq _ _ _ hd]
  have hr := h.read x
  rw [hx] at hr
  obtain ⟨b, e, m, hb, hs⟩ := hg'.sound h
  obtain ⟨hu, hm⟩ := ptr_at h hb hs hf hr
  obtain ⟨j, hj, hj2⟩ : ∃ j, C.P.info? T = some j ∧ j.size ≠ 0 := by
    cases hi : C.P.info? T with
    | none => rw [hi] at h3; simp at h3
    | some j => rw [hi] at h3; simp at h3; exact ⟨j, rfl, h3⟩
  have hrun : (execOp a.eval o).run C.P w = .ok (.value (.pointer (some ⟨b, 0, none⟩))) w := by
    obtain ⟨_, op, _, _, _, _⟩ := o
    simp only at ho; subst ho
    simp only [execOp, hu, Sem.run_bind, Lib.run_to_unsafe w ⟨b, 0, none⟩ h1 h2 hj hj2 hs (show 0 < m by omega), Result.andThen_ok, Sem.run_pure]
  rw [hrun]
  rw [hu] at hr
  exact hnext _ _ _ hk ⟨C, hC, β, h.put hr o.dst⟩
theorem lies_self {P : Program} {T : TypeId} {count : Nat} (hc : P.cellsOf T ≠ 0) (h : 1 ≤ count) : liesAt P P.depth T count 0 T 1 = true := by
  have hd : P.depth = (2 * (P.types.size + Made.depth) + 1) + 1 := rfl
  rw [hd]
  simp only [liesAt, Bool.or_eq_true]
  left
  rw [hd]
  simp [rowAt, hc, h, sameLayout]
/-- An unsafe pointer as a pointer to what lies there. -/
theorem AtOp.fromU {tp tu T : TypeId} {x : Operand} {n e2 : Nat} {c : List AV} {l : List (List AV)} (ho : o.op = .convert tu tp x) (h1 : P.underlying tu = some .unsafePointer) (h2 : P.underlying tp = some (.pointer T)) (h3 : (P.info? T).isSome = true) (h4 : P.cellsOf T ≠ 0) (h5 : P.cellsOf T ≤ e2)
    (hx : evA s.t x = .ptr n 0 0) (hg' : Gh s n T) (hf : find s.h n = some ⟨e2, c :: l⟩) (hk : force (putA s o.dst (.ptr n 0 0)) fun s1 => rec k Q s1) : AtOp P rec o k Q s := by
  intro ro Cs next E hg hnext a w ⟨C, hC, β, h⟩
  have hP := hg.prog C hC
  subst hP
  have hd : ∀ c, o.op ≠ .defer c := by intro c hc; rw [ho] at hc; cases hc
  refine ⟨fun _ _ => trivial, ?_⟩
  rw [Oper.semAt_eq _ _ _ hd]
  have hr := h.read x
  rw [hx] at hr
  obtain ⟨b, e, m, hb, hs⟩ := hg'.sound h
  obtain ⟨hu, hm⟩ := ptr_at h hb hs hf hr
  obtain ⟨j, hj⟩ := Option.isSome_iff_exists.1 h3
  have hl : liesAt C.P C.P.depth T (m / C.P.cellsOf T) 0 T 1 = true := lies_self h4 ((Nat.one_le_div_iff (by omega)).2 (by omega))
  have hrun : (execOp a.eval o).run C.P w = .ok (.value (.pointer (some ⟨b, 0, none⟩))) w := by
    obtain ⟨_, op, _, _, _, _⟩ := o
    simp only at ho; subst ho
    simp only [execOp, hu, Sem.run_bind, Lib.run_from_unsafe w ⟨b, 0, none⟩ h1 h2 hj hs hl, Result.andThen_ok, Sem.run_pure]
  rw [hrun]
  rw [hu] at hr
  exact hnext _ _ _ hk ⟨C, hC, β, h.put hr o.dst⟩

/-- An append after which the new block's type is known. -/
theorem AtOp.apT {xs : Array Operand} {t1 t2 e : TypeId} {x1 x2 : Operand} (j i : Nat) (ho : o.op = .call ⟨.builtin .append, #[x1, x2], #[t1, t2]⟩) (he : slT P t1 = some e) (h0 : ∀ n i len, evA s.t x1 = .sl n i len → i = 0)
    (hk : apK P (evA s.t) (find s.h) [x1, x2] [t1, t2] fun ns z l => ((∀ n ∈ ns, Gh s n e) ∧ 0 < l.length) ∧ force (putA (pushA { s with h := dropN ns s.h } ⟨z, l⟩) o.dst (.sl s.k 0 l.length)) fun s1 => force (putG s1 j i (.tb s.k e)) fun s2 => rec k Q s2) : AtOp P rec o k Q s := by
  intro ro Cs next E hg hnext a w ⟨C, hC, β, h⟩
  have hP := hg.prog C hC
  subst hP
  have hd : ∀ c, o.op ≠ .defer c := by intro c hc; rw [ho] at hc; cases hc
  obtain ⟨ns, z, l, u, w', β', ⟨⟨hG, hl⟩, hK⟩, hr, h', hR, _, hty⟩ := apK_sound h ho hk
  refine ⟨fun _ _ => trivial, ?_⟩
  rw [Oper.semAt_eq _ _ _ hd, hr]
  obtain ⟨b, z', m, hb, hs⟩ := hty hl t1 t2 e rfl he (fun n hn => (hG n hn).sound h) (fun y1 y2 hy n i len hx => by
    simp only [Array.mk.injEq, List.cons.injEq, and_true] at hy
    obtain ⟨rfl, rfl⟩ := hy
    exact h0 n i len hx)
  exact hnext _ _ _ hK ⟨C, hC, β', (h'.put hR o.dst).putG hb hs j i⟩

/-- The bytes of an own block as a string; the block is let go. -/
theorem AtOp.ustr {x y : Operand} {pt it e : TypeId} {m : Nat} {l : List UInt8} (ho : o.op = .call ⟨.builtin .unsafeString, #[x, y], #[pt, it]⟩) (h1 : P.underlying pt = some (.pointer e)) (h2 : P.cellsOf e = 1) (hx : evA s.t x = .ptr m 0 0) (hy : evA s.t y = .v (.int .i64 (l.length : Int)))
    (hg' : Gh s m e) (hf : find s.h m = some ⟨1, byC l⟩) (hl0 : l ≠ []) (hl : l.length ≤ 9223372036854775807) (hk : force (dropN [m] s.h) fun h' => force (putA { s with h := h' } o.dst (.v (.string ⟨l.toArray⟩))) fun s1 => rec k Q s1) : AtOp P rec o k Q s := by
  intro ro Cs next E hg hnext a w ⟨C, hC, β, h⟩
  have hP := hg.prog C hC
  subst hP
  have hd : ∀ c, o.op ≠ .defer c := by intro c hc; rw [ho] at hc; cases hc
  refine ⟨fun _ _ => trivial, ?_⟩
  rw [Oper.semAt_eq _ _ _ hd]
  have hr := h.read x
  have hr2 := h.read y
  rw [hx] at hr
  rw [hy] at hr2
  obtain ⟨b, e1, mm, hb, hs⟩ := hg'.sound h
  have hbl : (byC l).length = l.length := by simp [byC]
  rcases h.look m _ hf with ⟨b', o', c', t', p1, p2, p3, p4, p5⟩ | ⟨p1, p2⟩
  case inr => exact absurd (List.map_eq_nil_iff.1 p1) hl0
  have p1' := p1
  rw [hb] at p1
  simp only [Option.some.injEq, Prod.mk.injEq] at p1
  obtain ⟨rfl, rfl, rfl⟩ := p1
  obtain ⟨b2, o2, q1, hu⟩ := hr.ptr_inv hb
  rw [hb] at q1
  simp only [Option.some.injEq, Prod.mk.injEq] at q1
  obtain ⟨rfl, rfl, _⟩ := q1
  have hsh := hs
  simp only [World.shape?, p2, Option.some.injEq, Prod.mk.injEq] at hs
  obtain ⟨rfl, rfl⟩ := hs
  simp only [hbl, Nat.mul_one, Nat.zero_add] at p4
  have hcell : ∀ j z, l[j]? = some z → w.cell? ((⟨b, 0, none⟩ : Addr).add j) = some (.int .u8 z.toNat) := by
    intro j z hj
    obtain ⟨u, hu1, hu2⟩ := p5 j 0 [AV.v (.int .u8 (z.toNat : Int))] (.v (.int .u8 (z.toNat : Int))) (by simp [byC, hj]) rfl
    cases hu2
    have hadd : (⟨b, 0, none⟩ : Addr).add j = ⟨b, j, none⟩ := by
      unfold Addr.add
      split <;> simp_all
    rw [hadd]
    simp only [World.cell?, p2]
    simpa using hu1
  have hyv : a.eval y = .int .i64 (l.length : Int) := by
    generalize hv : a.eval y = va at hr2
    cases hr2
    rfl
  have hrun : (execOp a.eval o).run C.P w = .ok (.value (.string ⟨l.toArray⟩)) (w.freeze ⟨b, 0, none⟩ l.length) := by
    obtain ⟨_, op, oty, _, _, _⟩ := o
    simp only at ho; subst ho
    have hus := Lib.run_unsafeString_row (P := C.P) w pt it oty t' h1 h2 b c'.size hsh l hl0 p4 hl hcell
    have hu' : a.eval x = .pointer (some ⟨b, 0, none⟩) := by simpa using hu
    simp only [execOp, resolve, invoke, builtin, List.map_toArray, List.map_cons, List.map_nil, hu', hyv, Sem.run_bind, Sem.run_pure, Result.andThen_ok, hus]
  rw [hrun]
  have hlen : l.length ≠ 0 := by simpa using hl0
  have hfz : ∀ q, (w.freeze ⟨b, 0, none⟩ l.length).heap[q]? = if q = b then some (.cells c' t' (0, l.length)) else w.heap[q]? := by
    intro q
    unfold World.freeze
    rw [if_neg hlen]
    simp only [Array.getElem?_modify]
    by_cases hq : q = b
    · subst hq
      simp [p2]
    · rw [if_neg (fun e => hq e.symm), if_neg hq]
  have hlose := h.lose (w' := w.freeze ⟨b, 0, none⟩ l.length) hf hb ⟨_, _, _, p2⟩ (fun q hq => by rw [hfz, if_neg hq]) (by unfold World.freeze; rw [if_neg hlen]; simp) (by unfold World.freeze; rw [if_neg hlen]) (by unfold World.freeze; rw [if_neg hlen]) (by unfold World.freeze; rw [if_neg hlen]) (fun q t2 m2 hq => by
    by_cases hqb : q = b
    · subst hqb
      rw [hsh] at hq
      simp only [World.shape?, hfz, if_pos]
      exact hq
    · rw [shape_of_heap (w := w) (w' := w.freeze ⟨b, 0, none⟩ l.length) (by rw [hfz, if_neg hqb])]; exact hq)
  exact hnext _ _ _ hk ⟨C, hC, β, hlose.put (.v _) o.dst⟩
end
end Go.Eng

set_option linter.unusedSimpArgs false
set_option linter.unusedVariables false
namespace Go.Eng
open Go Go.RowKit

/-- A function whose answer R holds memory of its own (the name 0), with these contents. -/
def RFun (P : Program) (f : FuncId) (args : List AV) (z : Nat) (l : List (List AV)) (R : AV) : Prop :=
  (∃ fn, P.funcs[f]? = some fn ∧ (fn.name == "runtime.NumGoroutine") = false ∧ fn.body.isSome = true) ∧ (∀ c ∈ l, ∀ s ∈ c, Cl s) ∧
  ∀ (X : Nat → Prop) (w : World) (vs : Array Value), (∀ b, X b → b < w.heap.size) → args.length = vs.size →
    (∀ (k : Nat) (s : AV) (u : Value), args[k]? = some s → vs[k]? = some u → RS X B0 w s u) →
    Calls P f vs w fun e w' => ∃ v r, e = .returned v ∧ Ext w w' ∧ (∀ b o e, r = some (b, o, e) → w.heap.size ≤ b) ∧
      OwnR (fun b => X b ∨ ∃ o e, r = some (b, o, e)) (fun q => if q = 0 then r else none) w' 0 ⟨z, l⟩ ∧ RS (fun b => X b ∨ ∃ o e, r = some (b, o, e)) (fun q => if q = 0 then r else none) w' R v

section
variable {C : Ctx} {s : AState} {β : Bt} {a : Act} {w : World}
theorem StR.rfunAt (h : StR C s β a w) {n : Nat} (hfresh : β n = none) (hne : ∀ p ∈ s.h, p.1 ≠ n) (hlt : n < s.k) {z : Nat} {l : List (List AV)} {r : Option (Nat × Nat × Nat)} {w' : World} {v : Value} (hext : Ext w w') (hr : ∀ b o e, r = some (b, o, e) → w.heap.size ≤ b)
    (hcl : ∀ c ∈ l, ∀ s ∈ c, Cl s) (hown : OwnR (fun b => XOf C.F β s.h b ∨ ∃ o e, r = some (b, o, e)) (fun q => if q = 0 then r else none) w' 0 ⟨z, l⟩) {R R' : AV} (hRn : Ren (fun _ => 0) [n] R R') (hv : RS (fun b => XOf C.F β s.h b ∨ ∃ o e, r = some (b, o, e)) (fun q => if q = 0 then r else none) w' R v) :
    StR C { s with h := (n, ⟨z, l⟩) :: s.h } (fun q => if q = n then r else β q) a w' ∧ RS (XOf C.F (fun q => if q = n then r else β q) ((n, ⟨z, l⟩) :: s.h)) (fun q => if q = n then r else β q) w' R' v := by
  have hup : ∀ p ∈ s.h, (fun q => if q = n then r else β q) p.1 = β p.1 := fun p hp => by simp [hne p hp]
  have hup2 : ∀ p ∈ s.h, (if p.1 = n then r else β p.1) = β p.1 := fun p hp => if_neg (hne p hp)
  have hn1 : (fun q => if q = n then r else β q) n = r := by simp
  have hFlt : ∀ b, C.F b → b < w.heap.size := fun b hb => Nat.lt_of_lt_of_le (h.Flt b hb) h.fr.size
  have hX : ∀ b, XOf C.F (fun q => if q = n then r else β q) ((n, ⟨z, l⟩) :: s.h) b → XOf C.F β s.h b ∨ ∃ o e, r = some (b, o, e) := by
    rintro b (hb | ⟨p, hp, o, e, hb⟩)
    · exact .inl (.inl hb)
    · simp only [List.mem_cons] at hp
      rcases hp with rfl | hp
      · exact .inr ⟨o, e, by simpa using hb⟩
      · rw [hup p hp] at hb; exact .inl (.inr ⟨p, hp, o, e, hb⟩)
  have m : Mono (XOf C.F β s.h) β w (XOf C.F (fun q => if q = n then r else β q) ((n, ⟨z, l⟩) :: s.h)) (fun q => if q = n then r else β q) w' := by
    refine ⟨fun b hb hn => ?_, fun q r' hr' => ?_, hext.size, fun b hb _ => hext.block b hb, fun _ _ _ hs => hext.shape hs⟩
    · rcases hX b hb with hb | ⟨o, e, hb⟩
      · exact absurd hb hn
      · exact hr b o e hb
    · by_cases hq : q = n
      · subst hq; rw [hfresh] at hr'; cases hr'
      · simpa [hq] using hr'
  refine ⟨⟨h.defers.keep fun D _ hD _ _ => hext.block D (lt_of_get hD), h.size, fun i => (h.tm i).mono m, fun p hp => ?_, fun p hp => ?_, fun q r' hr' => ?_, ?_, ?_, ?_, h.fr.ext hext, h.Flt, h.sv.mono m, h.yy⟩, ?_⟩
  · simp only [List.mem_cons] at hp
    rcases hp with rfl | hp
    · rcases hown with ⟨b, o, c, t, h1, h2, h3, h4, h5⟩ | ⟨h1, h2⟩
      · refine .inl ⟨b, o, c, t, by simpa using h1, h2, h3, h4, fun i j ch s' hi hj => ?_⟩
        obtain ⟨u, hu, hru⟩ := h5 i j ch s' hi hj
        exact ⟨u, hu, (hru.anti hX).closed (hcl ch (List.mem_of_getElem? hi) s' (List.mem_of_getElem? hj)) _⟩
      · exact .inr ⟨h1, by simpa using h2⟩
    · refine (h.own p hp).mono m (fun b o e hb => hext.block b (h.lt_size hp hb)) (fun hn => by rw [hup2 p hp]; exact hn)
  · simp only [List.mem_cons] at hp
    rcases hp with rfl | hp
    · exact hlt
    · exact h.lt p hp
  · by_cases hq : q = n
    · subst hq; exact hlt
    · exact h.βlt _ _ (by simpa [hq] using hr')
  · simp only [List.map_cons, List.nodup_cons]
    refine ⟨fun hm => ?_, h.nd⟩
    obtain ⟨p, hp, he⟩ := List.mem_map.1 hm
    exact hne p hp he
  · intro p hp q hq b o e o' e' h1 h2
    simp only [List.mem_cons] at hp hq
    rcases hp with hp | hp <;> rcases hq with hq | hq
    · rw [hp, hq]
    · subst hp
      rw [hup2 q hq] at h2
      have := h.lt_size hq h2
      have := hr b o e (by simpa using h1); omega
    · subst hq
      rw [hup2 p hp] at h1
      have := h.lt_size hp h1
      have := hr b o' e' (by simpa using h2); omega
    · rw [hup2 p hp] at h1; rw [hup2 q hq] at h2
      exact h.inj p hp q hq b o e o' e' h1 h2
  · intro p hp b o e hb
    simp only [List.mem_cons] at hp
    rcases hp with rfl | hp
    · have := hr b o e (by simpa using hb)
      exact ⟨.inl (Nat.le_trans h.fr.size this), fun hF => by have := hFlt _ hF; omega⟩
    · rw [hup2 p hp] at hb; exact h.mine p hp b o e hb
  · exact hv.ren (σ := fun _ => 0) hX (fun q hq => by rw [List.mem_singleton.1 hq]; simp) hRn

end
theorem AtFn.newR' {P : Program} {rec : List It → (AState → Prop) → AState → Prop} {o : Oper} {f : FuncId} {as as' : List AV} {k : List It} {Q : AState → Prop} {s : AState} {z : Nat} {l : List (List AV)} {R R' : AV} {ns : List Nat}
    (has : as.map (frzA (find s.h) 3) = as') (hns : as.flatMap (namesA (find s.h) 3) = ns) (hfun : RFun P f as' z l R) (hRn : Ren (fun _ => 0) [s.k] R R') (hcl : ∀ a ∈ as', Cl a)
    (hk : rec k Q (putA (pushA { s with h := dropN ns s.h } ⟨z, l⟩) o.dst R')) : AtFn P rec o f as k Q s := by
  rintro ⟨fo, xs, ats, caps, ho, hf, rfl⟩ ro Cs next E hg hnext a w ⟨C, hC, β, h⟩
  have hP := hg.prog C hC
  subst hP; subst has; subst hns
  refine ⟨fun _ _ => trivial, ?_⟩
  rw [Oper.semAt_eq _ _ _ (fun c hc => by rw [ho] at hc; cases hc)]
  obtain ⟨⟨fn, hfn, hname, hbody⟩, hclR, hcall⟩ := hfun
  have hfr := h.read fo
  rw [hf] at hfr
  generalize hv : a.eval fo = va at hfr
  cases hfr with
  | fn hl hR =>
    rename_i vs
    have hd := h.drop ((xs.toList.map (evA s.t) ++ caps).flatMap (namesA (find s.h) 3))
    obtain ⟨ha1, ha2⟩ := args_get (fun x => h.read x) xs
    have hrun : (execOp a.eval o).run C.P w = .ok (.enter f (xs.map a.eval ++ vs)) w := by
      obtain ⟨_, op, _, _, _, _⟩ := o
      simp only at ho; subst ho
      have hnb : ¬ fn.body = none := by cases hb : fn.body <;> simp_all
      have hne : ¬ fn.name = "runtime.NumGoroutine" := by simpa using hname
      simp [execOp, resolve, hv, Deferred.ofValue, invoke, callFunc, hfn, hne, hnb]
    rw [hrun]
    have hX : ∀ b, XOf C.F β (dropN ((xs.toList.map (evA s.t) ++ caps).flatMap (namesA (find s.h) 3)) s.h) b → b < w.heap.size := by
      rintro b (hb | ⟨p, hp, o, e, hb⟩)
      · exact Nat.lt_of_lt_of_le (h.Flt b hb) h.fr.size
      · exact h.lt_size (mem_dropN.1 hp).1 hb
    refine ⟨wd_depth, callsIn_wd ?_⟩
    refine Calls.mono (hcall _ w (xs.map a.eval ++ vs) hX (by simp at ha1 hl ⊢; omega) (fun q sv u hsv hu => ?_)) ?_
    · simp only [List.getElem?_map, Option.map_eq_some_iff] at hsv
      obtain ⟨x, hx, rfl⟩ := hsv
      have hmem : x ∈ xs.toList.map (evA s.t) ++ caps := List.mem_of_getElem? hx
      have hrs : RS (XOf C.F β s.h) β w x u := by
        by_cases hq : q < (xs.toList.map (evA s.t)).length
        · rw [List.getElem?_append_left hq] at hx
          rw [Array.getElem?_append_left (by omega)] at hu
          exact ha2 q x u hx hu
        · rw [List.getElem?_append_right (by omega)] at hx
          rw [Array.getElem?_append_right (by omega)] at hu
          rw [← ha1] at hu
          exact hR _ x u hx hu
      exact (frzA_sound h _ 3 x u hrs (fun n hn => List.mem_flatMap.2 ⟨x, hmem, hn⟩)).closed (hcl _ (List.mem_map_of_mem hmem)) B0
    · rintro e w' ⟨v, r, rfl, hext, hr, hown, hRv⟩
      have hfresh : β s.k = none := by
        cases hb : β s.k with
        | none => rfl
        | some r => exact absurd (h.βlt _ _ hb) (Nat.lt_irrefl _)
      have hne : ∀ p ∈ dropN ((xs.toList.map (evA s.t) ++ caps).flatMap (namesA (find s.h) 3)) s.h, p.1 ≠ s.k := fun p hp => Nat.ne_of_lt (hd.lt p hp)
      obtain ⟨hst, hvv⟩ := hd.bump.rfunAt (n := s.k) hfresh hne (Nat.lt_succ_self _) hext hr hclR hown hRn hRv
      exact hnext _ _ _ hk ⟨C, hC, _, hst.put hvv o.dst⟩
theorem AtFn.newR {P : Program} {rec : List It → (AState → Prop) → AState → Prop} {o : Oper} {f : FuncId} {as as' : List AV} {k : List It} {Q : AState → Prop} {s : AState} {z : Nat} {l : List (List AV)} {R : AV} (R' : AV)
    (hfun : RFun P f as' z l R) (hRn : Ren (fun _ => 0) [s.k] R R') (hk : force (as.map (frzA (find s.h) 3)) fun x => x = as' ∧ (∀ a ∈ as', Cl a) ∧ force (dropN (as.flatMap (namesA (find s.h) 3)) s.h) fun h' => force (putA (pushA { s with h := h' } ⟨z, l⟩) o.dst R') fun s' => rec k Q s') : AtFn P rec o f as k Q s := by
  obtain ⟨h1, h2, h3⟩ := hk
  exact AtFn.newR' h1 rfl hfun hRn h2 h3
end Go.Eng

set_option linter.unusedSimpArgs false
set_option linter.unusedVariables false
namespace Go.Eng
open Go Go.RowKit

def resU (P : Program) (s : AState) : List ResultVar → (List AV → Prop) → Prop
  | [], K => K []
  | .tmp t :: rs, K => resU P s rs fun l => K (s.t t :: l)
  | .cell a t :: rs, K => (match s.t a with
     | .ptr n i j => (match find s.h n with | some k => ∃ ch, k.l[i]? = some ch ∧ loadK P t ch j fun av => resU P s rs fun l => K (av :: l) | none => False)
     | _ => False)
theorem u_nil (P : Program) (s : AState) (K : List AV → Prop) : resU P s [] K = K [] := rfl
theorem u_tmp (P : Program) (s : AState) (t : Nat) (rs : List ResultVar) (K : List AV → Prop) : resU P s (.tmp t :: rs) K = force (s.t t) fun x => resU P s rs fun l => K (x :: l) := rfl
theorem u_cell (P : Program) (s : AState) (a : Nat) (t : TypeId) (rs : List ResultVar) (K : List AV → Prop) : resU P s (.cell a t :: rs) K =
    pK (s.t a) (fun n i j => optK (find s.h n) fun b => optK b.l[i]? fun ch => loadE P (fun av => force av fun x => resU P s rs fun l => K (x :: l)) t ch j) (fun _ _ => False) := by
  simp only [resU, pK, optK, loadE_eq, force]
  cases s.t a with
  | ptr n i j =>
    simp only
    cases find s.h n with
    | none => rfl
    | some b => simp only; cases b.l[i]? <;> simp
  | _ => rfl
/-- The end of a run whose answer holds the block nm. -/
def FinR (P : Program) (rs : List ResultVar) (nm z : Nat) (l : List (List AV)) (R : AV) (s : AState) : Prop := resU P s rs (fun L => Ren (fun _ => nm) [0] (tupA L) R) ∧ find s.h nm = some ⟨z, l⟩
theorem u_fin (P : Program) (rs : List ResultVar) (nm z : Nat) (l : List (List AV)) (R : AV) (s : AState) : FinR P rs nm z l R s = (resU P s rs (fun L => Ren (fun _ => nm) [0] (tupA L) R) ∧ force (find s.h nm) fun b => b = some ⟨z, l⟩) := rfl

section
variable {C : Ctx} {s : AState} {β : Bt} {a : Act} {w : World}
theorem resU_sound (h : StR C s β a w) : ∀ (rs : List ResultVar) (K : List AV → Prop), resU C.P s rs K →
    ∃ l vs, K l ∧ (rs.mapM (resOne a.tmps)).run C.P w = .ok vs w ∧
      l.length = vs.length ∧ ∀ (k : Nat) (x : AV) (u : Value), l[k]? = some x → vs[k]? = some u → RS (XOf C.F β s.h) β w x u
  | [], K, hr => ⟨[], [], hr, by simp, rfl, fun k s u hs => by simp at hs⟩
  | .tmp t :: rs, K, hr => by
    obtain ⟨l, vs, k1, k2, k3, k4⟩ := resU_sound h rs _ hr
    refine ⟨s.t t :: l, a.tmps.getD t undef :: vs, k1, ?_, by simp [k3], fun k x u hs hu => ?_⟩
    · rw [List.mapM_cons]
      simp only [Sem.run_bind, resOne, Sem.run_pure, Result.andThen_ok, k2]
    · match k with
      | 0 =>
        have h9 := h.read (.tmp t)
        simp at hs hu; subst hs; subst hu
        simpa [evA, Act.eval] using h9
      | k + 1 => simp at hs hu; exact k4 k x u hs hu
  | .cell b t :: rs, K, hr => by
    unfold resU at hr
    split at hr
    case h_2 => exact hr.elim
    rename_i n i j hb
    have hrd := h.read (.tmp b)
    simp only [evA, hb] at hrd
    simp only [Act.eval] at hrd
    generalize hv : a.tmps.getD b undef = va at hrd
    cases hrd with
    | ptr hbb =>
      split at hr
      case h_2 => exact hr.elim
      rename_i k hk
      obtain ⟨ch, hi, hl⟩ := hr
      obtain ⟨av, x, h1, h2, h3⟩ := loadK_own (w := w) hbb (h.look n k hk) hi hl
      obtain ⟨l, vs, k1, k2, k3, k4⟩ := resU_sound h rs _ h1
      refine ⟨av :: l, x :: vs, k1, ?_, by simp [k3], fun k x' u hs hu => ?_⟩
      · rw [List.mapM_cons]
        simp only [Sem.run_bind, show (resOne a.tmps (.cell b t)).run C.P w = .ok x w by simp [resOne, hv, asAddr, h2], Sem.run_pure, Result.andThen_ok, k2]
      · match k with
        | 0 => simp at hs hu; subst hs; subst hu; exact h3
        | k + 1 => simp at hs hu; exact k4 k x' u hs hu
theorem resU_run (h : StR C s β a w) {fn : Func} {K : AV → Prop} (hr : resU C.P s fn.results.toList (fun L => K (tupA L))) :
    ∃ v, (results fn a.tmps).run C.P w = .ok v w ∧ ∃ R0, RS (XOf C.F β s.h) β w R0 v ∧ K R0 := by
  obtain ⟨l, vs, h1, h2, h3, h4⟩ := resU_sound h _ _ hr
  have hm : (fn.results.mapM (resOne a.tmps)).run C.P w = .ok vs.toArray w := by
    rw [Array.mapM_eq_mapM_toList]
    simp only [Sem.run_map, h2, Result.andThen_ok]
  have hr' : (results fn a.tmps).run C.P w = .ok (if h : vs.toArray.size = 1 then vs.toArray[0] else .tuple vs.toArray) w := by
    have he : results fn a.tmps = (do let vs ← fn.results.mapM (resOne a.tmps); pure (if h : vs.size = 1 then vs[0] else .tuple vs)) := by
      unfold results
      congr 2
    rw [he]
    simp only [Sem.run_bind, hm, Result.andThen_ok, Sem.run_pure]
  refine ⟨_, hr', tupA l, ?_, h1⟩
  match l, vs, h3, h4 with
  | [x], [v], _, h4 => exact h4 0 x v rfl rfl
  | [], [], h3, h4 => exact .t rfl fun k s u hs => by simp at hs
  | x :: y :: l, v :: u :: vs, h3, h4 =>
    have : ¬ (v :: u :: vs).toArray.size = 1 := by simp
    rw [dif_neg this]
    exact .t (by simpa using h3) fun k s' u' hs hu => h4 k s' u' hs (by simpa using hu)
end

theorem RFun.intro {P : Program} {f : FuncId} {fn : Func} {c : Code} {args : List AV} {z : Nat} {l : List (List AV)} {R : AV} (n nm : Nat) (hm : P.follows .mixedOrders = true) (hf : P.funcs[f]? = some fn) (hname : (fn.name == "runtime.NumGoroutine") = false)
    (hb : fn.body = some c) (hcl : ∀ c ∈ l, ∀ s ∈ c, Cl s) (hlen : args.length ≤ fn.ntmps)
    (hrun : vcRun P n [.c c] (FinR P fn.results.toList nm z l R) ⟨fn.ntmps, slots args, [], 0, .nil⟩) : RFun P f args z l R := by
  refine ⟨⟨fn, hf, hname, by simp [hb]⟩, hcl, fun X w vs hX hl hR => ?_⟩
  let C : Ctx := ⟨P, X, fun _ => False, w, [], none, none⟩
  have hst : StR C ⟨fn.ntmps, slots args, [], 0, .nil⟩ B0 { tmps := vs ++ Array.replicate (fn.ntmps - vs.size) undef, defers := [] } w := by
    refine ⟨⟨fun d hd => by simp at hd, List.nodup_nil, fun l hl => (by cases hl), fun b l hb => (by cases hb)⟩, by simp; omega, fun i => ?_, by simp, by simp, fun n r hr => by simp [B0] at hr, by simp, by simp, by simp, ⟨rfl, rfl, rfl, Nat.le_refl _, fun _ _ _ => rfl, fun _ _ _ h => h⟩, hX, ⟨rfl, fun j f g hf => by simp [Aux.nil] at hf⟩, rfl⟩
    by_cases hi' : i < args.length
    · have hlt : i < vs.size := by omega
      have e1 : (vs ++ Array.replicate (fn.ntmps - vs.size) undef).getD i undef = vs[i] := by
        rw [Array.getD_eq_getD_getElem?, Array.getElem?_append_left hlt, Array.getElem?_eq_getElem hlt]; rfl
      simp only [e1, slots]
      have e2 : args.getD i .unk = args[i] := by simp [List.getD, hi']
      rw [e2]
      refine (hR i _ _ (List.getElem?_eq_getElem hi') (Array.getElem?_eq_getElem hlt)).anti fun b hb => ?_
      rcases hb with hb | ⟨p, hp, _⟩
      · exact hb
      · simp at hp
    · have : args.getD i .unk = .unk := by simp [List.getD, List.getElem?_eq_none (Nat.le_of_not_lt hi')]
      simp only [slots, this]; exact .unk _
  refine (callsIn_wide (n := 0)).1 (callsIn_of_wp_marks hf hb trivial ?_)
  have hsound := vcRun_sound (P := P) hm n none (· = C) (fun a w' => LeavesInM Fence.wide 0 P fn a.tmps (fun e w' => ∃ v r, e = .returned v ∧ Ext w w' ∧ (∀ b o e, r = some (b, o, e) → w.heap.size ≤ b) ∧
      OwnR (fun b => X b ∨ ∃ o e, r = some (b, o, e)) (fun q => if q = 0 then r else none) w' 0 ⟨z, l⟩ ∧ RS (fun b => X b ∨ ∃ o e, r = some (b, o, e)) (fun q => if q = 0 then r else none) w' R v) a.defers .returning w') (FinR P fn.results.toList nm z l R) (GoodC.one (C := C) rfl rfl)
    (fun s a w' hQ hs => by
      obtain ⟨C', rfl, β, hs⟩ := hs
      obtain ⟨hQ1, hQ2⟩ := hQ
      refine leavesG (C := C) (fun a w' hs => ?_) _ a w' rfl hs
      obtain ⟨v, h3, R0, h4, hRn⟩ := resU_run (C := C) (fn := fn) (K := fun x => Ren (fun _ => nm) [0] x R) hs hQ1
      have hmem := find_mem hQ2
      have hX' : ∀ b, (X b ∨ ∃ o e, β nm = some (b, o, e)) → XOf C.F β s.h b := fun b hb => hb.imp id (fun ⟨o, e, hb⟩ => ⟨(nm, ⟨z, l⟩), hmem, o, e, hb⟩)
      refine ⟨v, h3, v, β nm, rfl, ⟨hs.fr.os, hs.fr.tape, hs.fr.output, hs.fr.size, fun b hb => hs.fr.block b hb (fun h => h)⟩, fun b o e hb => ((hs.mine _ hmem b o e hb).1).resolve_right (fun h => h), ?_, h4.ren (σ := fun _ => nm) hX' (fun q hq => by rw [List.mem_singleton.1 hq]; simp) hRn⟩
      rcases hs.own _ hmem with ⟨b, o, c, t, g1, g2, g3, g4, g5⟩ | ⟨g1, g2⟩
      · refine .inl ⟨b, o, c, t, by simpa using g1, g2, g3, g4, fun i j ch s' hi hj => ?_⟩
        obtain ⟨u, hu, hru⟩ := g5 i j ch s' hi hj
        exact ⟨u, hu, (hru.anti hX').closed (hcl ch (List.mem_of_getElem? hi) s' (List.mem_of_getElem? hj)) _⟩
      · exact .inr ⟨g1, by simpa using g2⟩) _ _ _ _ hrun ⟨C, rfl, B0, hst⟩
  simp only [Kont] at hsound
  refine Code.wpIn_mono (fun e a' w' he => ?_) hsound
  cases e with
  | normal => exact he
  | ret => exact he
  | _ => exact he.elim
end Go.Eng

set_option linter.unusedSimpArgs false
set_option linter.unusedVariables false
namespace Go.Eng
open Go Go.RowKit

theorem apK_G (P : Program) (ρ : Operand → AV) (H : Nat → Option Blk) (a b : Operand) (t u : TypeId) (hu2 : ikT P u = none) (K : List Nat → Nat → List (List AV) → Prop) : apK P ρ H [a, b] [t, u] K =
    optK (slT P t) fun e => force (szT P e) fun z => (0 < z ∧ byT P e ≤ 256 ∧ optK (zeT P e) fun w => w.length = z) ∧ (P.underlying u).isSome = true ∧
      force (ρ a) fun x => force (ρ b) fun y => dstE H z x fun ns dl => srcE H z y fun sl =>
        dl.length + sl.length ≤ 274877906944 ∧ (∀ c ∈ sl, ∀ q ∈ c, oneA q = true) ∧ force (dl ++ sl) fun l => K ns z l := by
  simp only [apK, optK, force, srcE, dstE, hu2]
  cases slT P t with
  | none => rfl
  | some e => simp only; cases zeT P e <;> simp
theorem AtOp.apTE {P : Program} {rec : List It → (AState → Prop) → AState → Prop} {o : Oper} {k : List It} {Q : AState → Prop} {n : Nat} {t : Nat → AV} {h : List (Nat × Blk)} {kk : Nat} {x : Aux} {t1 t2 e : TypeId} {x1 x2 : Operand} (j i : Nat) (ho : o.op = .call ⟨.builtin .append, #[x1, x2], #[t1, t2]⟩) (he : slT P t1 = some e) (hu2 : ikT P t2 = none) (h0 : ∀ n i len, evA t x1 = .sl n i len → i = 0)
    (hk : optK (slT P t1) fun e0 => force (szT P e0) fun z => (0 < z ∧ byT P e0 ≤ 256 ∧ optK (zeT P e0) fun w => w.length = z) ∧ (P.underlying t2).isSome = true ∧
      force (evA t x1) fun x' => force (evA t x2) fun y => dstE (find h) z x' fun ns dl => srcE (find h) z y fun sl =>
        dl.length + sl.length ≤ 274877906944 ∧ (∀ c ∈ sl, ∀ q ∈ c, oneA q = true) ∧ force (dl ++ sl) fun l => ((∀ m ∈ ns, Gh ⟨n, t, h, kk, x⟩ m e) ∧ 0 < l.length) ∧
          force (dropN ns h) fun h' => force (putA (pushA ⟨n, t, h', kk, x⟩ ⟨z, l⟩) o.dst (.sl kk 0 l.length)) fun s1 => force (putG s1 j i (.tb kk e)) fun s2 => rec k Q s2) : AtOp P rec o k Q ⟨n, t, h, kk, x⟩ := by
  refine AtOp.apT (xs := #[x1, x2]) j i ho he h0 ?_
  rw [apK_G _ _ _ _ _ _ _ hu2]
  exact hk
/-- A rune as a string. -/
theorem AtOp.r2s {P : Program} {rec : List It → (AState → Prop) → AState → Prop} {o : Oper} {k : List It} {Q : AState → Prop} {s : AState} {t u : TypeId} {x : Operand} {kk : IntKind} {n : Int}
    (ho : o.op = .convert t u x) (ht : (P.underlying t).isSome = true) (hu : P.underlying u = some .string) (hx : evA s.t x = .v (.int kk n)) (hk : rec k Q (putA s o.dst (.v (.string (Utf8.encode n))))) : AtOp P rec o k Q s := by
  intro ro Cs next E hg hnext a w ⟨C, hC, β, h⟩
  have hP := hg.prog C hC
  subst hP
  have hd : ∀ c, o.op ≠ .defer c := by intro c hc; rw [ho] at hc; cases hc
  refine ⟨fun _ _ => trivial, ?_⟩
  rw [Oper.semAt_eq _ _ _ hd]
  have hr := h.read x
  rw [hx] at hr
  generalize hv : a.eval x = va at hr
  cases hr
  have hrun : (execOp a.eval o).run C.P w = .ok (.value (.string (Utf8.encode n))) w := by
    obtain ⟨_, op, _, _, _, _⟩ := o
    simp only at ho; subst ho
    simp only [execOp, hv, Sem.run_bind, run_convert_int_string w t u kk n ht hu, Result.andThen_ok, Sem.run_pure]
  rw [hrun]
  exact hnext _ _ _ hk ⟨C, hC, β, h.put (.v _) o.dst⟩
end Go.Eng

set_option linter.unusedSimpArgs false
set_option linter.unusedVariables false
namespace Go.Eng
open Go Go.RowKit

section
variable {P : Program}
theorem run_equalIn_int (d : Nat) (w : World) {e : TypeId} (hu : P.underlying e = some (.int .i64)) (a b : Int) : (Op.equalIn (d + 1) e (.int .i64 a) (.int .i64 b)).run P w = .ok (decide (a = b)) w := by
  rw [Op.equalIn]
  simp only [Sem.run_bind, run_underlying hu, Result.andThen_ok]
  simp
  rfl
theorem run_part_int (w : World) {e : TypeId} (ha : (isAgg e).run P w = .ok false w) (xs : List Int) (i : Nat) (x : Int) (h : xs[i]? = some x) :
    (part e (xs.map fun x => Value.int .i64 x).toArray (i * 1)).run P w = .ok (.int .i64 x) w := by
  unfold part
  simp only [Sem.run_bind, ha, Result.andThen_ok, Nat.mul_one, List.getElem?_toArray, List.getElem?_map, h, Option.map_some]
  simp
theorem run_eqItems_int (d : Nat) (w : World) {e : TypeId} (hu : P.underlying e = some (.int .i64)) (ha : (isAgg e).run P w = .ok false w) (xs ys : List Int) : ∀ (is : List Nat), (∀ i ∈ is, i < xs.length ∧ i < ys.length) →
    (Op.eqItems (d + 1) e 1 (xs.map fun x => Value.int .i64 x).toArray (ys.map fun x => Value.int .i64 x).toArray is).run P w = .ok (decide (∀ i ∈ is, xs[i]? = ys[i]?)) w
  | [], _ => by simp [Op.eqItems]
  | i :: is, h => by
    have ih := run_eqItems_int d w hu ha xs ys is (fun j hj => h j (List.mem_cons_of_mem _ hj))
    obtain ⟨h1, h2⟩ := h i List.mem_cons_self
    have p1 := run_part_int w ha xs i _ (List.getElem?_eq_getElem h1)
    have p2 := run_part_int w ha ys i _ (List.getElem?_eq_getElem h2)
    have p3 := run_equalIn_int d w hu xs[i] ys[i]
    simp only [Op.eqItems, Sem.run_bind, p1, p2, p3, Result.andThen_ok]
    by_cases hc : xs[i] = ys[i]
    · simp only [hc, decide_true, Bool.not_true, Bool.false_eq_true, if_false]
      rw [ih]
      congr 1
      rw [decide_eq_decide]
      simp only [List.mem_cons, forall_eq_or_imp]
      rw [List.getElem?_eq_getElem h1, List.getElem?_eq_getElem h2, hc]
      simp
    · simp only [hc, decide_false, Bool.not_false, if_true]
      rw [decide_eq_false (by
        intro hh
        have := hh i List.mem_cons_self
        rw [List.getElem?_eq_getElem h1, List.getElem?_eq_getElem h2] at this
        exact hc (Option.some.inj this))]
      simp
theorem EqK.arr {t e : TypeId} {n : Nat} {i : TypeInfo} (hg : P.eqGuardType P.depth t = false) (hu : P.underlying t = some (.array n e)) (hi : P.info? e = some i) (hue : P.underlying e = some (.int .i64))
    (hc : P.cellsOf e = 1) (ha : ∀ w, (isAgg e).run P w = .ok false w) : EqK P t n := by
  refine EqK.of hg fun xs ys hx hy w => ?_
  unfold Op.equal
  show (Op.equalIn (9999 + 1) t _ _).run P w = _
  rw [run_equalIn_array w 9999 _ _ hu hi, hc]
  show (Op.eqItems (9998 + 1) e 1 _ _ _).run P w = _
  rw [run_eqItems_int 9998 w hue (ha w) xs ys _ (fun i hi => by rw [List.mem_range] at hi; omega)]
  congr 1
  rw [decide_eq_decide]
  constructor
  · intro h
    refine List.ext_getElem? fun i => ?_
    by_cases hin : i < n
    · exact h i (List.mem_range.2 hin)
    · rw [List.getElem?_eq_none (by omega), List.getElem?_eq_none (by omega)]
  · rintro rfl i _; rfl
end
end Go.Eng
