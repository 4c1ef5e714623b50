/- The engine, part S: iterators: their contract, yield, the range over a function. -/
import Derived.Test.YtdhdopmjaibggaaEngR
set_option linter.unusedSimpArgs false
set_option linter.unusedVariables false
namespace Go.Eng
open Go Go.RowKit

def RSs (X : Nat → Prop) (β : Bt) (w : World) (as : List AV) (vs : Array Value) : Prop :=
  as.length = vs.size ∧ ∀ (k : Nat) (s : AV) (u : Value), as[k]? = some s → vs[k]? = some u → RS X β w s u

/-- It stands while only blocks of O turn. -/
def Stab (J : Nat → (Nat → Prop) → (Nat → Prop) → World → Prop) : Prop :=
  ∀ i X O w O' w', J i X O w → Fr O w w' → (∀ b, O' b → (O b ∨ w.heap.size ≤ b) ∧ b < w'.heap.size) → J i X O' w'

/-- **An iterator's contract**: it yields these, one after the other, and stops where yield says no. -/
def ISeq (P : Program) (f : FuncId) (args : List AV) (xs : List (List AV)) : Prop :=
  (∃ fn, P.funcs[f]? = some fn ∧ (fn.name == "runtime.NumGoroutine") = false ∧ fn.body.isSome = true) ∧
  ∀ (l : Nat) (J Jx : Nat → (Nat → Prop) → (Nat → Prop) → World → Prop), Stab J → Stab Jx → (∀ i X O w, J i X O w → ∀ b, X b → b < w.heap.size) →
    (∀ i X O w as vs, J i X O w → xs[i]? = some as → RSs (fun b => X b ∨ O b) B0 w as vs →
      YieldAt Fence.wide 0 P l vs w fun e w' => ∃ b X', e = .returned (.bool b) ∧ (if b then J (i + 1) X' O w' else Jx i X' O w') ∧ (∀ b, X' b → X b ∨ w.heap.size ≤ b) ∧ (∀ b, X' b → b < w'.heap.size) ∧ Fr X w w') →
    ∀ X w vs, J 0 X (fun _ => False) w → RSs X B0 w args vs →
      Calls P f (#[.func (.yield l) #[] #[]] ++ vs) w fun e w' => (∃ v, e = .returned v) ∧ ∃ i X O, (i = xs.length ∧ J i X O w') ∨ Jx i X O w'

theorem StR.start {C : Ctx} {args : List AV} {vs : Array Value} {n : Nat} (hlen : args.length ≤ n) (hR : RSs C.F B0 C.W args vs) (hX : ∀ b, C.F b → b < C.W.heap.size) (hsv : C.sv = []) (hro : C.ro = none) :
    StR C ⟨n, slots args, [], 0, ⟨[], C.y⟩⟩ B0 { tmps := vs ++ Array.replicate (n - vs.size) undef, defers := [] } C.W := by
  obtain ⟨hl, hR⟩ := hR
  refine ⟨⟨fun d hd => by simp at hd, List.nodup_nil, fun l hl => by rw [hro] at hl; cases hl⟩, by simp; omega, fun i => ?_, by simp, by simp, fun n r hr => by simp [B0] at hr, by simp, by simp, by simp, ⟨rfl, rfl, rfl, Nat.le_refl _, fun _ _ _ => rfl, fun _ _ _ h => h⟩, hX, ⟨by simp [hsv], fun j f g hf => by simp at hf⟩, rfl⟩
  by_cases hi' : i < args.length
  · have hlt : i < vs.size := by omega
    have e1 : (vs ++ Array.replicate (n - vs.size) undef).getD i undef = vs[i] := by
      rw [Array.getD_eq_getD_getElem?, Array.getElem?_append_left hlt, Array.getElem?_eq_getElem hlt]; rfl
    simp only [e1, slots]
    have e2 : args.getD i .unk = args[i] := by simp [List.getD, hi']
    rw [e2]
    refine (hR i _ _ (List.getElem?_eq_getElem hi') (Array.getElem?_eq_getElem hlt)).anti fun b hb => ?_
    rcases hb with hb | ⟨p, hp, _⟩
    · exact hb
    · simp at hp
  · have : args.getD i .unk = .unk := by simp [List.getD, List.getElem?_eq_none (Nat.le_of_not_lt hi')]
    simp only [slots, this]; exact .unk _

theorem yieldAt_mono {F : Fence} {m : Nat} {P : Program} {l : Nat} {args : Array Value} {W : World} {R R' : Ending → World → Prop} (h : YieldAt F m P l args W R) (hr : ∀ e w, R e w → R' e w) : YieldAt F m P l args W R' := by
  obtain ⟨fn, tmps, as, body, h1, h2⟩ := h
  exact ⟨fn, tmps, as, body, h1, h2.mono hr⟩

/-- An iterator's contract from its text. -/
theorem ISeq.intro {P : Program} {f : FuncId} {fn : Func} {c : Code} {args : List AV} {xs : List (List AV)} (n : Nat) (hm : P.follows .mixedOrders = true) (hf : P.funcs[f]? = some fn) (hname : (fn.name == "runtime.NumGoroutine") = false)
    (hb : fn.body = some c) (hres : fn.results = #[]) (hlen : args.length + 1 ≤ fn.ntmps)
    (hrun : ∀ l, vcRun P n [.c c] (fun s => s.x.y = none ∨ ∃ l, s.x.y = some (l, [])) ⟨fn.ntmps, slots (.v (.func (.yield l) #[] #[]) :: args), [], 0, ⟨[], some (l, xs)⟩⟩) : ISeq P f args xs := by
  refine ⟨⟨fn, hf, hname, by simp [hb]⟩, fun l J Jx hJ hJx hlt hy X w vs h0 hR => ?_⟩
  refine (callsIn_wide (n := 0)).1 (callsIn_of_wp_marks hf hb trivial ?_)
  let C : Ctx := ⟨P, X, fun _ => False, w, [], some (l, xs), none⟩
  let Cs : Ctx → Prop := fun C => C.P = P ∧ C.ro = none ∧ ((∃ i, C.y = some (l, xs.drop i) ∧ i ≤ xs.length ∧ J i C.F C.Pm C.W) ∨ (C.y = none ∧ ∃ i, Jx i C.F C.Pm C.W))
  have hg : GoodC P none Cs := by
    refine ⟨fun C h => h.1, fun C h => h.2.1, fun C l' as rest O w vs hC hyy hfr hO hl hvs => ?_⟩
    obtain ⟨h1, h2, h3⟩ := hC
    rcases h3 with ⟨i, hi, hile, hj⟩ | ⟨h, _⟩
    case inr => rw [h] at hyy; cases hyy
    rw [hi] at hyy
    simp only [Option.some.injEq, Prod.mk.injEq] at hyy
    obtain ⟨rfl, hd⟩ := hyy
    have hx : xs[i]? = some as := by
      have := congrArg (fun l => l[0]?) hd
      simpa using this
    have hilt := (List.getElem?_eq_some_iff.1 hx).1
    have hrest : rest = xs.drop (i + 1) := by
      have := congrArg List.tail hd
      simpa using this.symm
    have hj' := hJ i C.F C.Pm C.W O w hj hfr (fun b hb => ⟨(hO b hb).1.symm, (hO b hb).2.2⟩)
    refine yieldAt_mono (hy i C.F O w as vs hj' hx ⟨hl, hvs⟩) ?_
    rintro e w' ⟨b, X', rfl, hJ', hX1, hX2, hfr'⟩
    refine ⟨{ C with F := X', Pm := O, W := w', y := if b then some (l, rest) else none }, b, rfl, ⟨h1, h2, ?_⟩, ⟨rfl, hX1, rfl, hX2, hfr', rfl⟩, rfl⟩
    cases b
    · exact .inr ⟨rfl, i, hJ'⟩
    · exact .inl ⟨i + 1, by simp [hrest], hilt, hJ'⟩
  have hst : StR C ⟨fn.ntmps, slots (.v (.func (.yield l) #[] #[]) :: args), [], 0, ⟨[], some (l, xs)⟩⟩ B0 { tmps := (#[.func (.yield l) #[] #[]] ++ vs) ++ Array.replicate (fn.ntmps - (#[.func (.yield l) #[] #[]] ++ vs : Array Value).size) undef, defers := [] } w := by
    refine StR.start (C := C) (by simpa using hlen) ⟨by have := hR.1; simp; omega, fun k s u hs hu => ?_⟩ (hlt 0 X _ w h0) rfl rfl
    match k with
    | 0 =>
      rw [Array.getElem?_append_left (by simp)] at hu
      simp at hs hu
      subst hs; subst hu; exact .v _
    | k + 1 =>
      refine hR.2 k s u (by simpa using hs) ?_
      rw [Array.getElem?_append_right (by simp)] at hu
      simpa using hu
  have hsound := vcRun_sound (P := P) hm n none Cs (fun a w' => LeavesInM Fence.wide 0 P fn a.tmps (fun e w' => (∃ v, e = .returned v) ∧ ∃ i X O, (i = xs.length ∧ J i X O w') ∨ Jx i X O w') a.defers .returning w') _ hg
    (fun s a w' hQ hs => by
      obtain ⟨C', hC', β, hs⟩ := hs
      obtain ⟨rfl, h2, h3⟩ := hC'
      refine leaves (C := C') (R := .t []) (by rw [hres]; exact rfl) (.t (by simp)) (fun v w'' h1 h4 => ⟨⟨v, rfl⟩, ?_⟩) _ a w' rfl hs
      rw [hs.yy] at hQ
      rcases h3 with ⟨i, hi, hile, hj⟩ | ⟨hi, i, hj⟩
      · rw [hi] at hQ
        rcases hQ with hQ | ⟨l', hQ⟩
        · cases hQ
        · simp only [Option.some.injEq, Prod.mk.injEq] at hQ
          have := congrArg List.length hQ.2
          simp at this
          exact ⟨i, _, _, .inl ⟨by omega, hJ i _ _ _ (fun _ => False) _ hj h4 (fun b hb => hb.elim)⟩⟩
      · exact ⟨i, _, _, .inr (hJx i _ _ _ (fun _ => False) _ hj h4 (fun b hb => hb.elim))⟩) _ _ _ _ (hrun l) ⟨C, ⟨rfl, rfl, .inl ⟨0, rfl, Nat.zero_le _, h0⟩⟩, B0, hst⟩
  simp only [Kont] at hsound
  refine Code.wpIn_mono (fun e a' w' he => ?_) hsound
  cases e with
  | normal => exact he
  | ret => exact he
  | _ => exact he.elim

def Own (β : Bt) (h : List (Nat × Blk)) (b : Nat) : Prop := ∃ p ∈ h, ∃ o e, β p.1 = some (b, o, e)
def MarkOf (ds : List Deferred) (b : Nat) : Prop := ∃ d ∈ ds, d = { target := .collected b, args := #[] }

theorem RS.addX {X X' : Nat → Prop} {β : Bt} {w : World} (hX : ∀ b, X' b → X b ∨ ¬ IsC w b) {x : AV} {u : Value} (h : RS X β w x u) : RS X' β w x u := by
  induction h with
  | v x => exact .v x
  | unk x => exact .unk x
  | ptr h => exact .ptr h
  | sl h hl hs hc => exact .sl h hl hs hc
  | slz => exact .slz
  | ez => exact .ez
  | ro0 => exact .ro0
  | ro u hx hb hl hd hu _ ih => exact .ro u (fun h => (hX _ h).elim hx (fun h => h hb)) hb hl hd hu ih
  | rp u hx hb hu _ ih => exact .rp u (fun h => (hX _ h).elim hx (fun h => h hb)) hb hu ih
  | fn hl _ ih => exact .fn hl ih
  | g hl _ ih => exact .g hl ih
  | t hl _ ih => exact .t hl ih

theorem StR.own_isC {C : Ctx} {s : AState} {β : Bt} {a : Act} {w : World} (h : StR C s β a w) {b : Nat} (hb : Own β s.h b) : IsC w b := by
  obtain ⟨p, hp, o, e, hb⟩ := hb
  rcases h.own p hp with ⟨b', o', c, t, h1, h2, _⟩ | ⟨_, h2⟩
  · rw [h1] at hb; cases hb; exact ⟨_, _, _, h2⟩
  · rw [h2] at hb; cases hb

theorem not_isC {w : World} {D : Nat} {o : Obj} (hD : w.heap[D]? = some o) (ho : ∀ c t q, o ≠ .cells c t q) : ¬ IsC w D := by
  rintro ⟨c, t, q, hc⟩
  rw [hD] at hc; cases hc; exact ho _ _ _ rfl

/-- The same slots and blocks, seen anew. -/
theorem StR.conv {C C' : Ctx} {s : AState} {β : Bt} {a a' : Act} {w w' : World} {n' : Nat} {t' : Nat → AV} {sv' : List (Nat → AV)} {y' : Option (Nat × List (List AV))} (h : StR C s β a w)
    (hv : ∀ x u, RS (XOf C.F β s.h) β w x u → RS (XOf C'.F β s.h) β w' x u) (hown : ∀ b, Own β s.h b → w'.heap[b]? = w.heap[b]?) (hbk : Bk C' w' a'.defers) (hsz : a'.tmps.size = n')
    (htm : ∀ i, RS (XOf C'.F β s.h) β w' (t' i) (a'.tmps.getD i undef)) (hmine : ∀ b, Own β s.h b → (C'.W.heap.size ≤ b ∨ C'.Pm b) ∧ ¬ C'.F b) (hfr : Fr C'.Pm C'.W w') (hFlt : ∀ b, C'.F b → b < C'.W.heap.size)
    (hsv : SvR (XOf C'.F β s.h) β w' sv' C'.sv) (hy : y' = C'.y) : StR C' ⟨n', t', s.h, s.k, ⟨sv', y'⟩⟩ β a' w' := by
  refine ⟨hbk, hsz, htm, fun p hp => ?_, h.lt, h.βlt, h.nd, h.inj, fun p hp b o e hb => hmine b ⟨p, hp, o, e, hb⟩, hfr, hFlt, hsv, hy⟩
  rcases h.own p hp with ⟨b, o, c, t, h1, h2, h3, h4, h5⟩ | ⟨h1, h2⟩
  · refine .inl ⟨b, o, c, t, h1, by rw [hown b ⟨p, hp, o, _, h1⟩]; exact h2, h3, h4, fun i j ch s hi hj => ?_⟩
    obtain ⟨u, hu, hr⟩ := h5 i j ch s hi hj
    exact ⟨u, hu, hv _ _ hr⟩
  · exact .inr ⟨h1, h2⟩

/-- **The rule for yield.** -/
theorem AtYl.use' {P : Program} {rec : List It → (AState → Prop) → AState → Prop} {o : Oper} {l : Nat} {as as' : List AV} {rest : List (List AV)} {k : List It} {Q : AState → Prop} {s : AState} {ns : List Nat}
    (has : as.map (frzA (find s.h) 3) = as') (hns : as.flatMap (namesA (find s.h) 3) = ns) (hy : s.x.y = some (l, as' :: rest)) (hcl : ∀ a ∈ as', Cl a)
    (hk : ∀ b : Bool, rec k Q (putA ⟨s.n, s.t, dropN ns s.h, s.k, ⟨s.x.sv, if b then some (l, rest) else none⟩⟩ o.dst (.v (.bool b)))) : AtYl P rec o l #[] #[] as k Q s := by
  rintro ⟨fo, xs, ats, ho, hf, rfl⟩ ro Cs next E hg hnext a w ⟨C, hC, β, h⟩
  have hP := hg.prog C hC
  subst hP; subst has; subst hns
  refine ⟨fun _ _ => trivial, ?_⟩
  rw [Oper.semAt_eq _ _ _ (fun c hc => by rw [ho] at hc; cases hc)]
  have hfr := h.read fo
  rw [hf] at hfr
  generalize hv : a.eval fo = va at hfr
  cases hfr
  have hd := h.drop ((xs.toList.map (evA s.t)).flatMap (namesA (find s.h) 3))
  generalize hns : (xs.toList.map (evA s.t)).flatMap (namesA (find s.h) 3) = ns at hd hk
  obtain ⟨ha1, ha2⟩ := args_get (fun x => h.read x) xs
  let O : Nat → Prop := fun b => Own β (dropN ns s.h) b ∨ MarkOf a.defers b
  have hmk : ∀ b, MarkOf a.defers b → Mark C w { target := .collected b, args := #[] } := fun b ⟨d, hd, e⟩ => e ▸ h.defers.marks d hd
  have hmk2 : ∀ b, MarkOf a.defers b → w.heap[b]? = some (Obj.deferred (some [])) ∧ (C.W.heap.size ≤ b ∨ C.Pm b) ∧ ¬ C.F b := fun b hb => by
    obtain ⟨D, h1, h2, h3, h4⟩ := hmk b hb
    simp at h1; subst h1; exact ⟨h2, h3, h4⟩
  have hO : ∀ b, O b → (C.W.heap.size ≤ b ∨ C.Pm b) ∧ ¬ C.F b ∧ b < w.heap.size := by
    rintro b (⟨p, hp, o', e, hb⟩ | hb)
    · have hp' := (mem_dropN.1 hp).1
      exact ⟨(h.mine p hp' b o' e hb).1, (h.mine p hp' b o' e hb).2, h.lt_size hp' hb⟩
    · obtain ⟨h2, h3, h4⟩ := hmk2 b hb
      exact ⟨h3, h4, lt_of_get h2⟩
  have hyld := hg.yld C l _ rest O w (xs.map a.eval) hC (h.yy ▸ hy) h.fr hO (by simp) (fun q sv u hsv hu => by
    simp only [List.getElem?_map, Option.map_eq_some_iff] at hsv
    obtain ⟨x, ⟨x0, hx0, rfl⟩, rfl⟩ := hsv
    have hx : (xs.toList.map (evA s.t))[q]? = some (evA s.t x0) := by simp [hx0]
    have hrs := ha2 q _ u hx hu
    have hmem := List.mem_of_getElem? hx
    have h1 := (frzA_sound h ns 3 _ u hrs (fun n hn => by rw [← hns]; exact List.mem_flatMap.2 ⟨_, hmem, hn⟩)).closed (hcl _ (List.mem_map_of_mem hmem)) B0
    refine h1.addX fun b hb => ?_
    rcases hb with hb | hb | hb
    · exact .inl (.inl hb)
    · exact .inl (.inr hb)
    · exact .inr (not_isC (hmk2 b hb).1 (fun _ _ _ => by simp)))
  obtain ⟨fn', tmps', as', body', hyr, hround⟩ := hyld
  have hrun : (execOp a.eval o).run C.P w = .ok (.round l fn' tmps' as' body') w := by
    obtain ⟨_, op, _, _, _, _⟩ := o
    simp only at ho; subst ho
    simp [execOp, resolve, hv, Deferred.ofValue, invoke, hyr]
  rw [hrun]
  refine ⟨wd_depth, RoundIn.mono (show RoundIn (wd ro) 0 C.P l fn' tmps' as' body' w _ from hround) ?_⟩
  rintro e w' ⟨C', b, rfl, hC', hs, hy'⟩
  have hX1 : ∀ q, q < w.heap.size → ¬ C.F q → ¬ C'.F q := fun q hq h1 h2 => by
    rcases hs.F q h2 with h' | h'
    · exact h1 h'
    · omega
  have m : Mono (XOf C.F β (dropN ns s.h)) β w (XOf C'.F β (dropN ns s.h)) β w' := by
    refine ⟨fun q h1 h2 => ?_, fun _ _ h => h, hs.fr.size, fun q hq hX => hs.fr.block q hq (fun h => hX (.inl h)), hs.fr.shape⟩
    rcases h1 with h1 | h1
    · rcases hs.F q h1 with h' | h'
      · exact absurd (.inl h') h2
      · exact h'
    · exact absurd (.inr h1) h2
  have hst : StR C' ⟨s.n, s.t, dropN ns s.h, s.k, ⟨s.x.sv, if b then some (l, rest) else none⟩⟩ β a w' := by
    refine hd.conv (fun x u hr => hr.mono m) (fun q hq => ?_) ⟨fun d hdd => ?_, h.defers.nd, fun l' hl' => ?_⟩ h.size (fun i => (hd.tm i).mono m) (fun q hq => ?_) ?_ ?_ (hs.sv ▸ hd.sv.mono m) hy'.symm
    · have := hO q (.inl hq)
      exact hs.fr.block q this.2.2 this.2.1
    · obtain ⟨D, h1, h2, h3, h4⟩ := h.defers.marks d hdd
      have hlt := lt_of_get h2
      exact ⟨D, h1, (hs.fr.block D hlt h4).trans h2, .inr (by rw [hs.Pm]; exact .inr ⟨d, hdd, h1⟩), hX1 D hlt h4⟩
    · have hro : C.ro = some l' := by rw [hg.rnd C hC, ← hg.rnd C' hC']; exact hl'
      obtain ⟨⟨r, hr⟩, hF⟩ := h.defers.rd l' hro
      have hlt := lt_of_get hr
      exact ⟨⟨r, (hs.fr.block l' hlt hF).trans hr⟩, hX1 l' hlt hF⟩
    · have := hO q (.inl hq)
      exact ⟨.inr (by rw [hs.Pm]; exact .inl hq), hX1 q this.2.2 this.2.1⟩
    · rw [hs.W]; exact ⟨rfl, rfl, rfl, Nat.le_refl _, fun _ _ _ => rfl, fun _ _ _ h => h⟩
    · rw [hs.W]; exact hs.Flt
  exact hnext _ _ _ (hk b) ⟨C', hC', β, hst.put (.v _) o.dst⟩
end Go.Eng
