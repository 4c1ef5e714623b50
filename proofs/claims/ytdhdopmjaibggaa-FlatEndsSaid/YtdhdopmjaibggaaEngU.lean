/- The engine, part U: the rule for the range over a function. -/
import Derived.Test.YtdhdopmjaibggaaEngT
set_option linter.unusedSimpArgs false
set_option linter.unusedVariables false
namespace Go.Eng
open Go Go.RowKit

theorem foldl_zip (ps : Array Nat) (vs : Array Value) (tm : Array Value) :
    (ps.zip vs).foldl (fun t (x : Nat × Value) => t.setIfInBounds x.1 x.2) tm = (ps.toList.zip vs.toList).foldl (fun t (x : Nat × Value) => t.setIfInBounds x.1 x.2) tm := by
  rw [← Array.foldl_toList, Array.toList_zip]

/-- **The rule for 'for .. range f'.** -/
theorem AtCode.range' {P : Program} {rec : List It → (AState → Prop) → AState → Prop} {g : Operand} {ps : Array Tmp} {assign body : Code} {k : List It} {Q : AState → Prop} {s : AState} {gf : Nat} {caps' : List AV} {xs : List (List AV)} {ns : List Nat}
    (iT : Nat → Nat → AV) (iS : Nat → List (Nat → AV)) (iH : Nat → List (Nat × Blk)) (iK : Nat → Nat)
    (hgf : frzA (find s.h) 3 (evA s.t g) = .fn gf caps') (hns : namesA (find s.h) 3 (evA s.t g) = ns) (hcl : ∀ x ∈ caps', Cl x) (hseq : ISeq P gf caps' xs) (hps : ∀ as ∈ xs, as.length = ps.size) (hpn : ∀ p ∈ ps.toList, p < s.n)
    (h0 : Le ⟨s.n, fun _ => .unk, dropN ns s.h, s.k, ⟨s.t :: s.x.sv, none⟩⟩ ⟨s.n, fun _ => .unk, iH 0, iK 0, ⟨iT 0 :: iS 0, none⟩⟩)
    (hr : ∀ i as, xs[i]? = some as → rec [.c assign, .lp (fun s1 => rec [.c body, .lp (fun s2 => Le (hid s.n s2) ⟨s.n, fun _ => .unk, iH (i + 1), iK (i + 1), ⟨iT (i + 1) :: iS (i + 1), none⟩⟩)] (fun s2 => s2.x.sv ≠ [] ∧ Q (rest s.n s.x.y s2)) s1)] (fun _ => False)
      ⟨s.n, updL (iT i) ps.toList as, iH i, iK i, ⟨iT i :: iS i, none⟩⟩)
    (hk : rec k Q ⟨s.n, iT xs.length, iH xs.length, iK xs.length, ⟨iS xs.length, s.x.y⟩⟩) : AtCode P rec (.rangeFunc g ps assign body) k Q s := by
  intro ro Cs Fin hg hm hrec hQ a w hs
  obtain ⟨C, hC, β, h⟩ := hs
  have hP := hg.prog C hC
  have hro := hg.rnd C hC
  subst hP
  obtain ⟨⟨fnI, hfnI, hnameI, hbodyI⟩, hseq⟩ := hseq
  have hd := h.drop ns
  have hfv := frzA_sound h ns 3 _ _ (h.read g) (fun n hn => hns ▸ hn)
  rw [hgf] at hfv
  generalize hgv : a.eval g = va at hfv
  cases hfv with
  | fn hcl1 hcR =>
  rename_i vs
  let S : Nat → AState := fun i => ⟨s.n, fun _ => .unk, iH i, iK i, ⟨iT i :: iS i, none⟩⟩
  refine wpIn_rangeFunc fun fn hfn => ?_
  obtain ⟨l, mk, w1, r, hent, ext, hl, hle, ⟨hr1, hr2, hr3, hr4, hr5, hr6, hr7⟩, hbk⟩ := enter_any (P := C.P) (ro := ro) hro h.defers (fun b hb => Nat.lt_of_lt_of_le (h.Flt b hb) h.fr.size) h.fr.size fn a.tmps ps assign body
  have eg : ∀ args w, (callFunc gf args).run C.P w = .ok (.enter gf args) w := by
    intro args w
    have hnb : ¬ fnI.body = none := by cases hb : fnI.body <;> simp_all
    have hne : ¬ fnI.name = "runtime.NumGoroutine" := by simpa using hnameI
    simp [callFunc, hfnI, hne, hnb]
  refine ⟨l, mk, w1, { target := .fn (.func gf) vs, args := #[.func (.yield l) #[] #[]] }, w1, gf, #[.func (.yield l) #[] #[]] ++ vs, w1, hent, ?_, fun _ _ => trivial, ?_, wd_depth, callsIn_wd ?_⟩
  · simp only [resolve, hgv]
    simp [go_sem]
  · simp [invoke, go_sem, eg]
  -- the world at the first round
  have hst1 : StR C ⟨s.n, s.t, dropN ns s.h, s.k, s.x⟩ β a w1 := hd.ext ext
  have hownlt : ∀ b, Own β (dropN ns s.h) b → b < w.heap.size := fun b hb => (hd.own_isC hb).lt
  have hmine0 : ∀ b, Own β (dropN ns s.h) b → (C.W.heap.size ≤ b ∨ C.Pm b) ∧ ¬ C.F b := fun b ⟨p, hp, o, e, hb⟩ => hd.mine p hp b o e hb
  have hlC : ¬ C.F l := fun hF => by have := h.Flt l hF; have := h.fr.size; omega
  let c0 : Ctx := { CR C a l β (dropN ns s.h) (fun _ => False) w1 with Pm := fun b => Own β (dropN ns s.h) b }
  have hst2 : StR c0 ⟨s.n, fun _ => .unk, dropN ns s.h, s.k, ⟨s.t :: s.x.sv, none⟩⟩ β ⟨a.tmps, []⟩ w1 := by
    have hXe : ∀ b, XOf c0.F β (dropN ns s.h) b ↔ XOf C.F β (dropN ns s.h) b := fun b => by simp [XOf, c0, CR]
    refine hst1.conv (C' := c0) (fun x u hr => hr.anti fun b hb => (hXe b).1 hb) (fun _ _ => rfl) ⟨fun d hd => by simp at hd, List.nodup_nil, fun q hq => ?_⟩ hst1.size (fun i => .unk _) (fun b hb => ⟨.inr hb, ?_⟩) ⟨rfl, rfl, rfl, Nat.le_refl _, fun _ _ _ => rfl, fun _ _ _ h => h⟩ (fun b hb => ?_) ?_ rfl
    · simp only [c0, CR, Option.some.injEq] at hq
      subst hq
      exact ⟨⟨r, hl⟩, fun hF => hF.elim hlC id⟩
    · rintro (hF | hF)
      · exact (hmine0 b hb).2 hF
      · exact hF
    · rcases hb with hb | hb
      · exact Nat.lt_of_lt_of_le (Nat.lt_of_lt_of_le (h.Flt b hb) h.fr.size) ext.size
      · exact hb.elim
    · refine ⟨by simp [c0, CR, hst1.sv.1], fun j f gg hf hgg i => ?_⟩
      match j with
      | 0 =>
        simp only [c0, CR, List.getElem?_cons_zero, Option.some.injEq] at hf hgg
        subst hf; subst hgg
        exact (hst1.tm i).anti fun b hb => (hXe b).1 hb
      | j + 1 => exact (hst1.sv.2 j f gg (by simpa using hf) (by simpa [c0, CR] using hgg) i).anti fun b hb => (hXe b).1 hb
  obtain ⟨β0, hst3⟩ := h0 c0 ⟨a.tmps, []⟩ w1 ⟨β, hst2⟩
  have hm3 : ∀ b, Own β0 (iH 0) b → (w1.heap.size ≤ b ∨ Own β (dropN ns s.h) b) ∧ ¬ (C.F b ∨ False) := fun b ⟨p, hp, o, e, hb⟩ => hst3.mine p hp b o e hb
  let X0 : Nat → Prop := fun b => C.F b ∨ Own β0 (iH 0) b ∨ b = l ∨ MarkOf (mk ++ a.defers) b
  have hG0 : GR C a l mk w.heap.size (S 0) r X0 (fun _ => False) w1 β0 := by
    refine ⟨?_, hst1.fr, fun b hb => ?_, hl, hbk, fun b => Iff.rfl, fun b hb => hb.elim, h.fr.size, hle, fun q hq => ?_⟩
    · exact hst3.conv (C' := CR C a l β0 (iH 0) (fun _ => False) w1) (fun x u hr => hr) (fun _ _ => rfl) ⟨fun d hd => by simp at hd, List.nodup_nil, hst3.defers.rd⟩ hst3.size hst3.tm (fun b hb => ⟨.inr hb, (hm3 b hb).2⟩) ⟨rfl, rfl, rfl, Nat.le_refl _, fun _ _ _ => rfl, fun _ _ _ h => h⟩ hst3.Flt hst3.sv hst3.yy
    · rcases (hm3 b hb).1 with h1 | h1
      · exact .inl (Nat.le_trans (Nat.le_trans h.fr.size ext.size) h1)
      · exact (hmine0 b h1).1
    · obtain ⟨⟨r', hr'⟩, _⟩ := h.defers.rd q hq
      exact lt_of_get hr'
  let rdone : Loop := { r with state := .done, pending := some .ret }
  refine Calls.mono (hseq l (fun i X O W => ∃ β', GR C a l mk w.heap.size (S i) r X O W β') (fun _ X O W => ∃ s2 β', (s2.x.sv ≠ [] ∧ Q (rest s.n s.x.y s2)) ∧ GR C a l mk w.heap.size (hid s.n s2) rdone X O W β') ?_ ?_ ?_ ?_ X0 w1 vs ⟨β0, hG0⟩ ?_) ?_
  · rintro i X O W O' W' ⟨β', hG⟩ hfr hO'
    exact ⟨β', hG.stab hfr hO'⟩
  · rintro i X O W O' W' ⟨s2, β', hq, hG⟩ hfr hO'
    exact ⟨s2, β', hq, hG.stab hfr hO'⟩
  · rintro i X O W ⟨β', hG⟩
    exact hG.Xlt
  · -- one round
    rintro i X O W as us ⟨β', hG⟩ hx ⟨husl, husR⟩
    have hlen := hps as (List.mem_of_getElem? hx)
    have hcap := run_yield (P := C.P) (args := us) hG.rcd (by rw [hr5]; omega)
    rw [hr3, hr4, hr5, hr6, hr7] at hcap
    refine ⟨fn, _, assign, body, hcap, roundIn_of_wpIn (F := Fence.wide) trivial ?_⟩
    -- the start of the round
    have hX1 : ∀ b, XOf (CR C a l β' (iH i) O W).F β' (iH i) b → X b ∨ O b := fun b hb => by
      rcases hb with (hb | hb) | hb
      · exact .inl ((hG.hX b).2 (.inl hb))
      · exact .inr hb
      · exact .inl ((hG.hX b).2 (.inr (.inl hb)))
    have hstart : StR (CR C a l β' (iH i) O W) ⟨s.n, updL (iT i) ps.toList as, iH i, iK i, ⟨iT i :: iS i, none⟩⟩ β' ⟨(ps.zip us).foldl (fun t (x : Nat × Value) => t.setIfInBounds x.1 x.2) a.tmps, []⟩ W := by
      rw [foldl_zip]
      refine hG.st.conv (C' := CR C a l β' (iH i) O W) (fun x u hr => hr) (fun _ _ => rfl) hG.st.defers (by rw [fold_size]; exact hG.st.size) ?_ (fun b ⟨p, hp, o, e, hb⟩ => hG.st.mine p hp b o e hb) hG.st.fr hG.st.Flt hG.st.sv hG.st.yy
      refine tmps_fold ps.toList as us.toList (iT i) a.tmps (by simpa using husl) (fun q s' u hs hu => ?_) (fun p hp => ?_) (fun j => ?_)
      · have := husR q s' u hs (by simpa using hu)
        exact (this.anti hX1).mono ⟨fun _ h h' => absurd h h', (fun _ _ h => by cases h), Nat.le_refl _, fun _ _ _ => rfl, fun _ _ _ h => h⟩
      · rw [h.size]; exact hpn p hp
      · exact hG.st.sv.2 0 (iT i) (fun i => a.tmps.getD i undef) rfl rfl j
    have hA := hrec (some l) (· = CR C a l β' (iH i) O W) (fun _ _ => False) (fun _ => False) (GoodC.one (C := CR C a l β' (iH i) O W) rfl rfl) (fun _ _ _ h => h.elim) _ _ _ _ (hr i as hx) ⟨_, rfl, β', hstart⟩
    simp only [Kont] at hA
    refine Code.wpIn_mono (fun e a1 w2 he => ?_) hA
    cases e with
    | normal => ?_
    | _ => exact he.elim
    obtain ⟨s1, ⟨_, rfl, β1, hs1⟩, hbod⟩ := he
    have hfr1 : Fr (Own β' (iH i)) W w2 := hs1.fr
    have hno : ∀ (r : Loop) c t q, Obj.loop r ≠ .cells c t q := fun _ _ _ _ => by simp
    have hlW : ¬ Own β' (iH i) l := fun ho => not_isC hG.rcd (hno _) (hG.st.own_isC ho)
    have hrec1 : w2.heap[l]? = some (Obj.loop r) := (hfr1.block l (lt_of_get hG.rcd) hlW).trans hG.rcd
    refine ⟨_, run_beginRound hrec1 hr1, ?_⟩
    obtain ⟨w3, hw3⟩ : ∃ w3, w2.putObj l (.loop { r with state := .busy }) = w3 := ⟨_, rfl⟩
    rw [hw3]
    have hoff : ∀ b, IsC w2 b → w3.heap[b]? = w2.heap[b]? := by rw [← hw3]; exact off_put hrec1 (hno _)
    have hz3 : w3.heap.size = w2.heap.size := by rw [← hw3]; simp [World.putObj]
    have hrec3 : w3.heap[l]? = some (Obj.loop { r with state := .busy }) := by rw [← hw3]; exact World.putObj_heap_same (lt_of_get hrec1)
    have hoth3 : ∀ b, b ≠ l → w3.heap[b]? = w2.heap[b]? := fun b hb => by rw [← hw3]; exact World.putObj_heap_other hb
    let CB : Ctx := { CR C a l β' (iH i) O W with W := w3, Pm := fun b => Own β1 s1.h b ∨ MarkOf a1.defers b }
    have hm1 : ∀ b, Own β1 s1.h b → (W.heap.size ≤ b ∨ Own β' (iH i) b) ∧ ¬ (C.F b ∨ O b) := fun b ⟨p, hp, o, e, hb⟩ => hs1.mine p hp b o e hb
    have hmk1 : ∀ b, MarkOf a1.defers b → w2.heap[b]? = some (Obj.deferred (some [])) ∧ (W.heap.size ≤ b ∨ Own β' (iH i) b) := fun b ⟨d, hd, e⟩ => by
      obtain ⟨D, h1, h2, h3, _⟩ := hs1.defers.marks d hd
      rw [e] at h1; simp at h1; subst h1; exact ⟨h2, h3⟩
    have hsB : StR CB s1 β1 a1 w3 := by
      refine hs1.conv (C' := CB) (fun x u hr => hr.off hoff) (fun b hb => hoff b (hs1.own_isC hb)) ⟨fun d hd => ?_, hs1.defers.nd, fun q hq => ?_⟩ hs1.size (fun j => (hs1.tm j).off hoff) (fun b hb => ⟨.inr (.inl hb), (hm1 b hb).2⟩) ⟨rfl, rfl, rfl, Nat.le_refl _, fun _ _ _ => rfl, fun _ _ _ h => h⟩ (fun b hb => ?_) ⟨hs1.sv.1, fun j f gg hf hgg i => (hs1.sv.2 j f gg hf hgg i).off hoff⟩ hs1.yy
      · obtain ⟨D, h1, h2, h3, h4⟩ := hs1.defers.marks d hd
        exact ⟨D, h1, (hoth3 D (fun e => by subst e; rw [hrec1] at h2; cases h2)).trans h2, .inr (.inr ⟨d, hd, h1⟩), h4⟩
      · simp only [CB, CR, Option.some.injEq] at hq
        subst hq
        exact ⟨⟨_, hrec3⟩, (hs1.defers.rd _ rfl).2⟩
      · have h1 := hs1.Flt b hb
        have h2 := hs1.fr.size
        show b < w3.heap.size
        rw [hz3]; exact Nat.lt_of_lt_of_le h1 h2
    have fin : ∀ (s2 : AState) (β2 : Bt) (a3 : Act) (w4 : World) (jump : Option Code), StR CB s2 β2 a3 w4 →
        ∃ w5, (Instr.endRound l jump).run C.P w4 = .ok (.bool jump.isNone) w5 ∧ StR { CR C a l β' (iH i) O W with Pm := fun b => Own β' (iH i) b ∨ b = l } (hid s.n s2) β2 ⟨a.tmps, []⟩ w5 ∧
          w5.heap[l]? = some (Obj.loop { r with state := if jump.isNone then .ready else .done, pending := jump }) := by
      intro s2 β2 a3 w4 jump hs2
      have hlB : ¬ (Own β1 s1.h l ∨ MarkOf a1.defers l) := by
        rintro (ho | ho)
        · exact not_isC hrec1 (hno _) (hs1.own_isC ho)
        · have := (hmk1 l ho).1; rw [hrec1] at this; cases this
      have hrec4 : w4.heap[l]? = some (Obj.loop { r with state := .busy }) := (hs2.fr.block l (lt_of_get hrec3) hlB).trans hrec3
      have hend := run_endRound (P := C.P) jump hrec4
      refine ⟨_, hend, ?_, World.putObj_heap_same (lt_of_get hrec4)⟩
      have hoff4 : ∀ b, IsC w4 b → (w4.putObj l (.loop { r with state := if jump.isNone then .ready else .done, pending := jump })).heap[b]? = w4.heap[b]? := off_put hrec4 (hno _)
      have hPB : ∀ b, CB.Pm b → W.heap.size ≤ b ∨ (Own β' (iH i) b ∨ b = l) := by
        rintro b (hb | hb)
        · exact (hm1 b hb).1.imp id .inl
        · exact (hmk1 b hb).2.imp id .inl
      have hz : W.heap.size ≤ w3.heap.size := by rw [hz3]; exact hfr1.size
      refine hs2.conv (C' := { CR C a l β' (iH i) O W with Pm := fun b => Own β' (iH i) b ∨ b = l }) (fun x u hr => hr.off hoff4) (fun b hb => hoff4 b (hs2.own_isC hb)) ⟨fun d hd => by simp at hd, List.nodup_nil, fun q hq => ?_⟩ h.size (fun _ => .unk _) (fun b hb => ?_) ?_ hG.st.Flt ⟨hs2.sv.1, fun j f gg hf hgg i => (hs2.sv.2 j f gg hf hgg i).off hoff4⟩ hs2.yy
      · simp only [CR, Option.some.injEq] at hq
        subst hq
        exact ⟨⟨_, World.putObj_heap_same (lt_of_get hrec4)⟩, (hs2.defers.rd _ rfl).2⟩
      · obtain ⟨p, hp, o, e, hb⟩ := hb
        have hmm := hs2.mine p hp b o e hb
        refine ⟨?_, hmm.2⟩
        rcases hmm.1 with h1 | h1
        · exact .inl (Nat.le_trans hz h1)
        · exact hPB b h1
      · have f3 : Fr (fun b => Own β' (iH i) b ∨ b = l) W w3 := by
          rw [← hw3]
          exact (hfr1.wider (fun _ _ h => .inl h)).put hrec1 (hno _) (.inr (.inr rfl))
        exact (f3.comp hs2.fr hPB).put hrec4 (hno _) (.inr (.inr rfl))
    have hB := hrec (some l) (· = CB) (roundPost C.P l (fun e w' => ∃ b X', e = .returned (.bool b) ∧ (if b then ∃ β', GR C a l mk w.heap.size (S (i + 1)) r X' O w' β' else ∃ s2 β', (s2.x.sv ≠ [] ∧ Q (rest s.n s.x.y s2)) ∧ GR C a l mk w.heap.size (hid s.n s2) rdone X' O w' β') ∧
      (∀ b, X' b → X b ∨ W.heap.size ≤ b) ∧ (∀ b, X' b → b < w'.heap.size) ∧ Fr X W w') .ret) (fun s2 => s2.x.sv ≠ [] ∧ Q (rest s.n s.x.y s2)) (GoodC.one (C := CB) rfl rfl) (fun s2 a3 w4 hq hs => by
        obtain ⟨_, rfl, β2, hs2⟩ := hs
        obtain ⟨w5, hend, hst5, hrec5⟩ := fin s2 β2 a3 w4 (some .ret) hs2
        obtain ⟨X', hG', hX', hfr'⟩ := hG.step hst5 hrec5
        exact ⟨_, w5, hend, false, X', rfl, ⟨s2, β2, hq, hG'⟩, hX', hG'.Xlt, hfr'⟩) _ _ _ _ hbod ⟨CB, rfl, β1, hsB⟩
    simp only [Kont] at hB
    refine Code.wpIn_mono (fun e a3 w4 he => ?_) hB
    cases e with
    | normal =>
      obtain ⟨s2, ⟨_, rfl, β2, hs2⟩, hle⟩ := he
      obtain ⟨w5, hend, hst5, hrec5⟩ := fin s2 β2 a3 w4 none hs2
      obtain ⟨β3, hst6⟩ := hle _ _ _ ⟨β2, hst5⟩
      have her : ({ r with state := if (none : Option Code).isNone then .ready else .done, pending := none } : Loop) = r := by
        cases r; simp only at hr1 hr2; subst hr1; subst hr2; rfl
      rw [her] at hrec5
      obtain ⟨X', hG', hX', hfr'⟩ := hG.step hst6 hrec5
      exact ⟨_, w5, hend, true, X', rfl, ⟨β3, hG'⟩, hX', hG'.Xlt, hfr'⟩
    | ret => exact he
    | _ => exact he.elim
  · exact ⟨hcl1, fun q s' u hs hu => by
      have h1 := (hcR q s' u hs hu).closed (hcl _ (List.mem_of_getElem? hs)) B0
      have h2 : RS (fun b => XOf C.F β (dropN ns s.h) b ∨ w.heap.size ≤ b) B0 w1 s' u :=
        h1.mono ⟨fun b h3 h4 => h3.resolve_left h4, fun _ _ h => h, ext.size, fun b hb _ => ext.block b hb, fun _ _ _ h => ext.shape h⟩
      refine h2.addX fun b hb => ?_
      rcases hb with hb | hb | hb | ⟨d, hd, e⟩
      · exact .inl (.inl (.inl hb))
      · rcases (hm3 b hb).1 with h3 | h3
        · exact .inl (.inr (Nat.le_trans ext.size h3))
        · exact .inl (.inl (.inr h3))
      · subst hb; exact .inl (.inr hle)
      · obtain ⟨D, h3, h4, _⟩ := hbk.marks d hd
        rw [e] at h3; simp at h3; subst h3
        exact .inr (not_isC h4 (fun _ _ _ => by simp))⟩
  · -- behind it
    have finish : ∀ (S' : AState) (rr : Loop) (X O : Nat → Prop) (W : World) (β' : Bt), GR C a l mk w.heap.size S' rr X O W β' → S'.x.sv ≠ [] →
        StR C (rest s.n s.x.y S') β' { a with defers := mk ++ a.defers } (W.putObj l (.loop { rr with state := .exhausted })) := by
      intro S' rr X O W β' hG hne
      have hno : ∀ c t q, Obj.loop rr ≠ .cells c t q := fun _ _ _ => by simp
      have hoff : ∀ b, IsC W b → (W.putObj l (.loop { rr with state := .exhausted })).heap[b]? = W.heap[b]? := off_put hG.rcd hno
      have hoth : ∀ b, b ≠ l → (W.putObj l (.loop { rr with state := .exhausted })).heap[b]? = W.heap[b]? := fun b hb => World.putObj_heap_other hb
      have hv : ∀ x u, RS (XOf (CR C a l β' S'.h O W).F β' S'.h) β' W x u → RS (XOf C.F β' S'.h) β' (W.putObj l (.loop { rr with state := .exhausted })) x u := fun x u hr =>
        (hr.anti (X' := XOf C.F β' S'.h) fun b hb => hb.imp .inl id).off hoff
      refine hG.st.conv (C' := C) (y' := s.x.y) hv (fun b hb => hoff b (hG.st.own_isC hb)) ⟨fun d hd => ?_, hG.bk.nd, fun q hq => ?_⟩ h.size (fun j => ?_) (fun b hb => ⟨hG.mine b hb, fun hF => ?_⟩) ?_ h.Flt ?_ h.yy
      · obtain ⟨D, h1, h2, h3⟩ := hG.bk.marks d hd
        exact ⟨D, h1, (hoth D (fun e => by subst e; rw [hG.rcd] at h2; cases h2)).trans h2, h3⟩
      · obtain ⟨⟨r', hr'⟩, hF⟩ := hG.bk.rd q hq
        exact ⟨⟨r', (hoth q (fun e => by have := hG.hB.2.2 q hq; have := hG.hB.2.1; omega)).trans hr'⟩, hF⟩
      · cases hsv : S'.x.sv with
        | nil => exact absurd hsv hne
        | cons f rs =>
          have := hG.st.sv.2 0 f (fun i => a.tmps.getD i undef) (by rw [hsv]; rfl) rfl j
          exact hv _ _ this
      · obtain ⟨p, hp, o, e, hb⟩ := hb
        exact (hG.st.mine p hp b o e hb).2 (.inl hF)
      · exact hG.fr.put hG.rcd hno (.inl (Nat.le_trans hG.hB.1 hG.hB.2.1))
      · cases hsv : S'.x.sv with
        | nil => exact absurd hsv hne
        | cons f rs =>
          have h1 := hG.st.sv.1
          rw [hsv] at h1
          simp [CR] at h1
          refine ⟨h1, fun j f' gg hf hgg i => hv _ _ (hG.st.sv.2 (j + 1) f' gg (by rw [hsv]; exact hf) hgg i)⟩
    rintro e W2 ⟨⟨v, rfl⟩, i, X, O, hh⟩
    rcases hh with ⟨rfl, β', hG⟩ | ⟨s2, β', hq, hG⟩
    · have hb : r.state ≠ .busy := by rw [hr1]; simp
      refine ⟨_, _, run_endLoop hG.rcd hb, ?_⟩
      have := finish _ _ _ _ _ _ hG (by simp [S])
      rw [hr2] at this ⊢
      exact hrec ro Cs Fin Q hg hQ k _ _ _ hk ⟨C, hC, β', this⟩
    · refine ⟨_, _, run_endLoop hG.rcd (by simp [rdone]), ?_⟩
      have := finish _ _ _ _ _ _ hG hq.1
      exact wpIn_ret (hQ _ _ _ hq.2 ⟨C, hC, β', this⟩)
end Go.Eng
