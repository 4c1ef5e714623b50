/- The engine of these proofs, part 7: how a function's text is run over abstract values, and why that is right. Conditions: none (a library text). -/
import Derived.Test.YtdhdopmjaibggaaBE6
/- The engine, part ZG: own blocks become read only, in the midst of a run. Conditions: none (a library text). -/
set_option linter.unusedSimpArgs false
set_option linter.unusedVariables false
namespace Go.Eng
open Go Go.RowKit

def fz (H : Nat → Option Blk) (ns : List Nat) (x : AV) : AV := if (namesA H 3 x).all (fun n => ns.contains n) = true then frzA H 3 x else x
def fzB (H : Nat → Option Blk) (ns : List Nat) (b : Blk) : Blk := ⟨b.e, b.l.map fun ch => ch.map (fz H ns)⟩
def frzH (ns : List Nat) (h : List (Nat × Blk)) : List (Nat × Blk) := (dropN ns h).map fun p => (p.1, fzB (find h) ns p.2)
def frzS (ns : List Nat) (s : AState) : AState := { s with t := fun i => fz (find s.h) ns (s.t i), h := frzH ns s.h }

theorem mem_frzH {ns : List Nat} {h : List (Nat × Blk)} {p : Nat × Blk} : p ∈ frzH ns h ↔ ∃ q ∈ dropN ns h, p = (q.1, fzB (find h) ns q.2) := by
  simp only [frzH, List.mem_map, eq_comm]
theorem frzH_names (ns : List Nat) (h : List (Nat × Blk)) : (frzH ns h).map (·.1) = (dropN ns h).map (·.1) := by simp [frzH, Function.comp]
theorem find_dropM (G : Blk → Blk) (ns : List Nat) (m : Nat) : ∀ (h : List (Nat × Blk)), find ((dropN ns h).map fun p => (p.1, G p.2)) m = if ns.contains m = true then none else (find h m).map G
  | [] => by simp [dropN, find]
  | (k, b) :: r => by
    have ih := find_dropM G ns m r
    unfold dropN at ih ⊢
    simp only [List.filter_cons]
    by_cases hk : ns.contains k = true
    · simp only [hk, Bool.not_true, Bool.false_eq_true, if_false]
      rw [ih]
      by_cases hm : ns.contains m = true
      · simp only [hm, if_true]
      · have : k ≠ m := by intro e; subst e; exact hm hk
        simp only [find, if_neg this]
    · simp only [Bool.not_eq_true] at hk
      simp only [hk, Bool.not_false, if_true, List.map_cons, find]
      by_cases hkm : k = m
      · subst hkm
        simp only [hk, if_true, Bool.false_eq_true, if_false, Option.map_some]
      · simp only [if_neg hkm]
        exact ih
theorem find_frzH (ns : List Nat) (h : List (Nat × Blk)) (m : Nat) : find (frzH ns h) m = if ns.contains m = true then none else (find h m).map (fzB (find h) ns) := find_dropM _ ns m h

section
variable {C : Ctx} {s : AState} {β : Bt} {a : Act} {w : World}
theorem fz_sound (h : StR C s β a w) (ns : List Nat) {x : AV} {u : Value} (hx : RS (XOf C.F β s.h) β w x u) : RS (XOf C.F β (dropN ns s.h)) β w (fz (find s.h) ns x) u := by
  unfold fz
  split
  · rename_i hall
    refine frzA_sound h ns 3 x u hx fun n hn => ?_
    rw [List.all_eq_true] at hall
    simpa using hall n hn
  · refine hx.anti fun b hb => ?_
    rcases hb with hb | ⟨p, hp, r⟩
    · exact .inl hb
    · exact .inr ⟨p, (mem_dropN.1 hp).1, r⟩

theorem XOf_frzH (F : Nat → Prop) (β : Bt) (ns : List Nat) (h : List (Nat × Blk)) : XOf F β (frzH ns h) = XOf F β (dropN ns h) := by
  funext b
  apply propext
  constructor
  · rintro (hb | ⟨p, hp, r⟩)
    · exact .inl hb
    · obtain ⟨q, hq, rfl⟩ := mem_frzH.1 hp
      exact .inr ⟨q, hq, r⟩
  · rintro (hb | ⟨p, hp, r⟩)
    · exact .inl hb
    · exact .inr ⟨_, mem_frzH.2 ⟨p, hp, rfl⟩, r⟩

theorem StR.frz (h : StR C s β a w) (ns : List Nat) : StR C (frzS ns s) β a w := by
  have hd := h.drop ns
  have hX : XOf C.F β (frzS ns s).h = XOf C.F β (dropN ns s.h) := XOf_frzH _ _ _ _
  refine ⟨h.defers, h.size, fun i => ?_, fun p hp => ?_, fun p hp => ?_, h.βlt, ?_, fun p hp q hq => ?_, fun p hp => ?_, h.fr, h.Flt, ?_, h.yy⟩
  · rw [hX]; exact fz_sound h ns (h.tm i)
  · rw [hX]
    obtain ⟨q, hq, rfl⟩ := mem_frzH.1 hp
    rcases h.own q (mem_dropN.1 hq).1 with ⟨b, o, c, t, h1, h2, h3, h4, h5⟩ | ⟨h1, h2⟩
    · refine .inl ⟨b, o, c, t, h1, h2, fun ch hch => ?_, by simpa [fzB] using h4, fun i j ch x hi hj => ?_⟩
      · obtain ⟨ch', hch', rfl⟩ := List.mem_map.1 hch
        simpa [fzB] using h3 ch' hch'
      · simp only [fzB, List.getElem?_map, Option.map_eq_some_iff] at hi
        obtain ⟨ch', hi', rfl⟩ := hi
        simp only [List.getElem?_map, Option.map_eq_some_iff] at hj
        obtain ⟨y, hj', rfl⟩ := hj
        obtain ⟨u, hu, hr⟩ := h5 i j ch' y hi' hj'
        exact ⟨u, hu, fz_sound h ns hr⟩
    · exact .inr ⟨by simp [fzB, h1], h2⟩
  · obtain ⟨q, hq, rfl⟩ := mem_frzH.1 hp
    exact hd.lt q hq
  · show ((frzH ns s.h).map (·.1)).Nodup
    rw [frzH_names]; exact hd.nd
  · obtain ⟨p', hp', rfl⟩ := mem_frzH.1 hp
    obtain ⟨q', hq', rfl⟩ := mem_frzH.1 hq
    exact hd.inj p' hp' q' hq'
  · obtain ⟨p', hp', rfl⟩ := mem_frzH.1 hp
    exact hd.mine p' hp'
  · rw [hX]; exact hd.sv
theorem Le.frz (s : AState) (ns : List Nat) : Le s (frzS ns s) := by
  rintro C a w ⟨β, h⟩
  exact ⟨β, h.frz ns⟩
end

theorem Le.trans {s s' s'' : AState} (h : Le s s') (h' : Le s' s'') : Le s s'' := fun C a w hs => h' C a w (h C a w hs)

/-- Blocks ns become read only; of the slots and blocks what is named stays. -/
theorem Le.ftl {n k k' : Nat} {t : Nat → AV} {L : List (Nat × AV)} {h h' : List (Nat × Blk)} {sv : List (Nat → AV)} {Ls : List (List (Nat × AV))} {y : Option (Nat × List (List AV))} (ns : List Nat) (r : List (Nat × Nat))
    (ht : ∀ p ∈ L, Ren (sg r) (h'.map (·.1)) (fz (find h) ns (t p.1)) p.2)
    (hh : ∀ p ∈ h', ∃ b, (if ns.contains (sg r p.1) = true then none else (find h (sg r p.1)).map (fzB (find h) ns)) = some b ∧ b.e = p.2.e ∧ RenL (sg r) (h'.map (·.1)) b.l p.2.l)
    (hlt : ∀ p ∈ h', p.1 < k') (hnd : (h'.map fun p => sg r p.1).Nodup) (hsv : RenLs (sg r) (h'.map (·.1)) sv Ls) :
    Le ⟨n, t, h, k, ⟨sv, y⟩⟩ ⟨n, Eng.tl L, h', k', ⟨Ls.map Eng.tl, y⟩⟩ :=
  (Le.frz _ ns).trans (Le.tl r ht (fun p hp => by obtain ⟨b, h1, h2, h3⟩ := hh p hp; exact ⟨b, by rw [find_frzH]; exact h1, h2, h3⟩) hlt hnd hsv)

/-- A call, where less is known. -/
theorem AtFn.le {P : Program} {rec : List It → (AState → Prop) → AState → Prop} {o : Oper} {f : FuncId} {as : List AV} {k : List It} {Q : AState → Prop} {s : AState} (s' : AState) (as' : List AV) (hle : Le s s')
    (hf : ∀ fo xs ts, o.op = .call ⟨.value fo, xs, ts⟩ → evA s'.t fo = .fn f [] ∧ xs.toList.map (evA s'.t) = as') (hk : AtFn P rec o f as' k Q s') : AtFn P rec o f as k Q s := by
  rintro ⟨fo, xs, ts, caps, ho, h1, h2⟩ ro Cs next E hg hnext a w ⟨C, hC, hs⟩
  obtain ⟨e1, e2⟩ := hf fo xs ts ho
  exact hk ⟨fo, xs, ts, [], ho, e1, by rw [e2]; simp⟩ ro Cs next E hg hnext a w ⟨C, hC, hle C a w hs⟩
end Go.Eng
