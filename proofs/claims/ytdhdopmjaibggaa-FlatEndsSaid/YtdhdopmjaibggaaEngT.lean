/- The engine, part T: the range over a function. -/
import Derived.Test.YtdhdopmjaibggaaEngS
set_option linter.unusedSimpArgs false
set_option linter.unusedVariables false
namespace Go.Eng
open Go Go.RowKit

theorem Fr.comp {Pm Q : Nat → Prop} {W w w' : World} (h : Fr Pm W w) (k : Fr Q w w') (hQ : ∀ b, Q b → W.heap.size ≤ b ∨ Pm b) : Fr Pm W w' := by
  refine ⟨k.os.trans h.os, k.tape.trans h.tape, k.output.trans h.output, Nat.le_trans h.size k.size, fun b hb hp => ?_, fun b t m hs => k.shape b t m (h.shape b t m hs)⟩
  rw [k.block b (Nat.lt_of_lt_of_le hb h.size) (fun hq => by rcases hQ b hq with h' | h'; · omega
                                                             · exact hp h')]
  exact h.block b hb hp
theorem Fr.wider {Pm Q : Nat → Prop} {W w : World} (h : Fr Pm W w) (hQ : ∀ b, b < W.heap.size → Pm b → Q b) : Fr Q W w :=
  ⟨h.os, h.tape, h.output, h.size, fun b hb hp => h.block b hb (fun hq => hp (hQ b hb hq)), h.shape⟩

/-- The slots with these arguments in these places. -/
def updL (t : Nat → AV) : List Nat → List AV → Nat → AV
  | p :: ps, a :: as => updL (upd t p a) ps as
  | _, _ => t

theorem tmps_fold {X : Nat → Prop} {β : Bt} {w : World} : ∀ (ps : List Nat) (as : List AV) (vs : List Value) (t : Nat → AV) (tm : Array Value), as.length = vs.length →
    (∀ (k : Nat) (s : AV) (u : Value), as[k]? = some s → vs[k]? = some u → RS X β w s u) → (∀ p ∈ ps, p < tm.size) → (∀ i, RS X β w (t i) (tm.getD i undef)) →
    ∀ i, RS X β w (updL t ps as i) (((ps.zip vs).foldl (fun t (p, v) => t.setIfInBounds p v) tm).getD i undef)
  | [], as, vs, t, tm, hl, hR, hp, ht, i => by simpa [updL] using ht i
  | p :: ps, [], [], t, tm, hl, hR, hp, ht, i => by simpa [updL] using ht i
  | p :: ps, a :: as, v :: vs, t, tm, hl, hR, hp, ht, i => by
    simp only [updL, List.zip_cons_cons, List.foldl_cons]
    refine tmps_fold ps as vs (upd t p a) _ (by simpa using hl) (fun k s u hs hu => hR (k + 1) s u hs hu) (fun q hq => by simpa using hp q (List.mem_cons_of_mem _ hq)) (fun j => ?_) i
    have hps := hp p List.mem_cons_self
    simp only [upd]
    split
    · rename_i e; subst e
      have : (tm.setIfInBounds j v).getD j undef = v := by simp [Array.getD, hps]
      rw [this]; exact hR 0 a v rfl rfl
    · rename_i e
      have : (tm.setIfInBounds p v).getD j undef = tm.getD j undef := by
        simp only [Array.getD_eq_getD_getElem?, Array.getElem?_setIfInBounds]
        rw [if_neg (fun e' => e e'.symm)]
      rw [this]; exact ht j

theorem fold_size (ps : List (Nat × Value)) : ∀ tm : Array Value, (ps.foldl (fun t (p, v) => t.setIfInBounds p v) tm).size = tm.size := by
  induction ps with
  | nil => intro tm; rfl
  | cons x ps ih => intro tm; simp only [List.foldl_cons]; rw [ih]; simp

/-- What is between two rounds: the slots are not looked at. -/
def hid (n : Nat) (s : AState) : AState := ⟨n, fun _ => .unk, s.h, s.k, s.x⟩
/-- Behind the loop the slots are the saved ones again. -/
def rest (n : Nat) (y : Option (Nat × List (List AV))) (s : AState) : AState := ⟨n, s.x.sv.headD (fun _ => .unk), s.h, s.k, ⟨s.x.sv.tail, y⟩⟩

section
variable (P : Program) (C : Ctx) (a : Act) (l : Nat) (mk : List Deferred) (B : Nat) (r0 : Loop)

/-- The context of a round that begins in W. -/
def CR (β : Bt) (h : List (Nat × Blk)) (O : Nat → Prop) (W : World) : Ctx :=
  ⟨C.P, fun b => C.F b ∨ O b, Own β h, W, (fun i => a.tmps.getD i undef) :: C.sv, none, some l⟩

/-- What stands between two rounds. -/
structure GR (S : AState) (rr : Loop) (X O : Nat → Prop) (W : World) (β : Bt) : Prop where
  st : StR (CR C a l β S.h O W) S β ⟨a.tmps, []⟩ W
  fr : Fr C.Pm C.W W
  mine : ∀ b, Own β S.h b → C.W.heap.size ≤ b ∨ C.Pm b
  rcd : W.heap[l]? = some (Obj.loop rr)
  bk : Bk C W (mk ++ a.defers)
  hX : ∀ b, X b ↔ (C.F b ∨ Own β S.h b ∨ b = l ∨ MarkOf (mk ++ a.defers) b)
  hO : ∀ b, O b → B ≤ b ∧ b < W.heap.size ∧ ¬ X b
  hB : C.W.heap.size ≤ B ∧ B ≤ l ∧ ∀ q, C.ro = some q → q < B
end

section
variable {P : Program} {C : Ctx} {a : Act} {l : Nat} {mk : List Deferred} {B : Nat} {S : AState} {rr : Loop} {X O : Nat → Prop} {W : World} {β : Bt}

theorem GR.Xlt (h : GR C a l mk B S rr X O W β) (b : Nat) (hb : X b) : b < W.heap.size := by
  rcases (h.hX b).1 hb with h1 | h1 | h1 | ⟨d, hd, e⟩
  · have := h.st.Flt b (.inl h1); exact this
  · exact (h.st.own_isC h1).lt
  · subst h1; exact lt_of_get h.rcd
  · obtain ⟨D, e', h2, _⟩ := h.bk.marks d hd
    rw [e] at e'; simp at e'; subst e'; exact lt_of_get h2

theorem GR.stab (h : GR C a l mk B S rr X O W β) {O' : Nat → Prop} {W' : World} (hfr : Fr O W W') (hO' : ∀ b, O' b → (O b ∨ W.heap.size ≤ b) ∧ b < W'.heap.size) : GR C a l mk B S rr X O' W' β := by
  have m : Mono (XOf (CR C a l β S.h O W).F β S.h) β W (XOf (CR C a l β S.h O' W').F β S.h) β W' := by
    refine ⟨fun b h1 h2 => ?_, fun _ _ h => h, hfr.size, fun b hb hX => hfr.block b hb (fun hO => hX (.inl (.inr hO))), hfr.shape⟩
    rcases h1 with (h1 | h1) | h1
    · exact absurd (.inl (.inl h1)) h2
    · rcases (hO' b h1).1 with h3 | h3
      · exact absurd (.inl (.inr h3)) h2
      · exact h3
    · exact absurd (.inr h1) h2
  have hnO : ∀ b, Own β S.h b → ¬ O b := fun b hb hO => (h.hO b hO).2.2 ((h.hX b).2 (.inr (.inl hb)))
  have hkeep : ∀ (b : Nat) (o : Obj), W.heap[b]? = some o → ¬ O b → W'.heap[b]? = W.heap[b]? := fun b o hb hO => hfr.block b (lt_of_get hb) hO
  have hrec : W'.heap[l]? = some (Obj.loop rr) := (hkeep l _ h.rcd (fun hO => (h.hO l hO).2.2 ((h.hX l).2 (.inr (.inr (.inl rfl)))))).trans h.rcd
  have hown : ∀ b, Own β S.h b → W'.heap[b]? = W.heap[b]? := fun b hb => hfr.block b (h.st.own_isC hb).lt (hnO b hb)
  have hO2 : ∀ b, O' b → B ≤ b ∧ b < W'.heap.size ∧ ¬ X b := fun b hb => by
    rcases (hO' b hb).1 with h3 | h3
    · exact ⟨(h.hO b h3).1, (hO' b hb).2, (h.hO b h3).2.2⟩
    · exact ⟨by have := h.hB.2.1; have := lt_of_get h.rcd; omega, (hO' b hb).2, fun hX => by have := h.Xlt b hX; omega⟩
  refine ⟨?_, h.fr.comp hfr (fun b hb => .inl (Nat.le_trans h.hB.1 (h.hO b hb).1)), h.mine, hrec, ?_, h.hX, hO2, h.hB⟩
  · refine h.st.conv (fun x u hr => hr.mono m) hown ⟨fun d hd => by simp at hd, List.nodup_nil, fun q hq => ?_⟩ h.st.size (fun i => (h.st.tm i).mono m) (fun b hb => ?_) ⟨rfl, rfl, rfl, Nat.le_refl _, fun _ _ _ => rfl, fun _ _ _ h => h⟩ (fun b hb => ?_) (h.st.sv.mono m) h.st.yy
    · simp only [CR, Option.some.injEq] at hq
      subst hq
      refine ⟨⟨rr, hrec⟩, fun hF => ?_⟩
      rcases hF with hF | hF
      · exact (h.st.defers.rd l rfl).2 (.inl hF)
      · exact (hO2 l hF).2.2 ((h.hX l).2 (.inr (.inr (.inl rfl))))
    · refine ⟨.inr hb, fun hF => ?_⟩
      rcases hF with hF | hF
      · have : ¬ (CR C a l β S.h O W).F b := by
          obtain ⟨p, hp, o, e, hb⟩ := hb
          exact (h.st.mine p hp b o e hb).2
        exact this (.inl hF)
      · exact (hO2 b hF).2.2 ((h.hX b).2 (.inr (.inl hb)))
    · rcases hb with hb | hb
      · have := h.st.Flt b (.inl hb); exact Nat.lt_of_lt_of_le this hfr.size
      · exact (hO2 b hb).2.1
  · refine ⟨fun d hd => ?_, h.bk.nd, fun q hq => ?_⟩
    · obtain ⟨D, h1, h2, h3, h4⟩ := h.bk.marks d hd
      exact ⟨D, h1, (hkeep D _ h2 (fun hO => (h.hO D hO).2.2 ((h.hX D).2 (.inr (.inr (.inr ⟨d, hd, h1⟩)))))).trans h2, h3, h4⟩
    · obtain ⟨⟨r, hr⟩, hF⟩ := h.bk.rd q hq
      exact ⟨⟨r, (hkeep q _ hr (fun hO => by have := (h.hO q hO).1; have := h.hB.2.2 q hq; omega)).trans hr⟩, hF⟩

theorem GR.step (h : GR C a l mk B S rr X O W β) {S' : AState} {rr' : Loop} {w4 : World} {β' : Bt} (hst : StR { CR C a l β S.h O W with Pm := fun b => Own β S.h b ∨ b = l } S' β' ⟨a.tmps, []⟩ w4) (hrec : w4.heap[l]? = some (Obj.loop rr')) :
    ∃ X', GR C a l mk B S' rr' X' O w4 β' ∧ (∀ b, X' b → X b ∨ W.heap.size ≤ b) ∧ Fr X W w4 := by
  have hfr : Fr (fun b => Own β S.h b ∨ b = l) W w4 := hst.fr
  have hm : ∀ b, Own β' S'.h b → (W.heap.size ≤ b ∨ Own β S.h b ∨ b = l) ∧ ¬ (C.F b ∨ O b) := fun b ⟨p, hp, o, e, hb⟩ => hst.mine p hp b o e hb
  have hkeep : ∀ (D : Nat) (o : Obj), W.heap[D]? = some o → (∀ c t q, o ≠ .cells c t q) → D ≠ l → w4.heap[D]? = W.heap[D]? := fun D o hD ho hne =>
    hfr.block D (lt_of_get hD) (fun hh => hh.elim (fun hh => not_isC hD ho (h.st.own_isC hh)) hne)
  refine ⟨fun b => C.F b ∨ Own β' S'.h b ∨ b = l ∨ MarkOf (mk ++ a.defers) b, ⟨?_, ?_, fun b hb => ?_, hrec, ⟨fun d hd => ?_, h.bk.nd, fun q hq => ?_⟩, fun b => Iff.rfl, fun b hb => ?_, h.hB⟩, fun b hb => ?_, ?_⟩
  · refine hst.conv (C' := CR C a l β' S'.h O w4) (fun x u hr => hr) (fun _ _ => rfl) ⟨fun d hd => by simp at hd, List.nodup_nil, fun q hq => hst.defers.rd q hq⟩ hst.size hst.tm (fun b hb => ⟨.inr hb, (hm b hb).2⟩) ⟨rfl, rfl, rfl, Nat.le_refl _, fun _ _ _ => rfl, fun _ _ _ h => h⟩ (fun b hb => ?_) hst.sv hst.yy
    have := h.st.Flt b hb
    exact Nat.lt_of_lt_of_le this hfr.size
  · exact h.fr.comp hfr (fun b hb => hb.elim (h.mine b) (fun e => .inl (by subst e; exact Nat.le_trans h.hB.1 h.hB.2.1)))
  · rcases (hm b hb).1 with h1 | h1 | h1
    · exact .inl (Nat.le_trans h.fr.size h1)
    · exact h.mine b h1
    · subst h1; exact .inl (Nat.le_trans h.hB.1 h.hB.2.1)
  · obtain ⟨D, h1, h2, h3⟩ := h.bk.marks d hd
    exact ⟨D, h1, (hkeep D _ h2 (fun _ _ _ => by simp) (fun e => by subst e; rw [h.rcd] at h2; cases h2)).trans h2, h3⟩
  · obtain ⟨⟨r, hr⟩, hF⟩ := h.bk.rd q hq
    exact ⟨⟨r, (hkeep q _ hr (fun _ _ _ => by simp) (fun e => by have := h.hB.2.2 q hq; have := h.hB.2.1; omega)).trans hr⟩, hF⟩
  · have h1 := h.hO b hb
    refine ⟨h1.1, Nat.lt_of_lt_of_le h1.2.1 hfr.size, fun hX => ?_⟩
    rcases hX with hX | hX | hX
    · exact h1.2.2 ((h.hX b).2 (.inl hX))
    · exact (hm b hX).2 (.inr hb)
    · exact h1.2.2 ((h.hX b).2 (.inr (.inr hX)))
  · rcases hb with hb | hb | hb
    · exact .inl ((h.hX b).2 (.inl hb))
    · rcases (hm b hb).1 with h1 | h1 | h1
      · exact .inr h1
      · exact .inl ((h.hX b).2 (.inr (.inl h1)))
      · exact .inl ((h.hX b).2 (.inr (.inr (.inl h1))))
    · exact .inl ((h.hX b).2 (.inr (.inr hb)))
  · exact hfr.wider (fun b _ hb => (h.hX b).2 (.inr (hb.elim .inl (fun e => .inr (.inl e)))))
end

/-- The record is laid. -/
theorem enter_any {P : Program} {ro : Option Nat} {C : Ctx} {w : World} {ds : List Deferred} (hro : C.ro = ro) (hbk : Bk C w ds) (hF : ∀ b, C.F b → b < w.heap.size) (hW : C.W.heap.size ≤ w.heap.size) (fn : FuncId) (tmps : Array Value) (ps : Array Tmp) (as body : Code) :
    ∃ (l : Nat) (mk : List Deferred) (w1 : World) (r : Loop), (Instr.enterLoop fn tmps ps as body ro).run P w = .ok (l, mk) w1 ∧ Ext w w1 ∧ w1.heap[l]? = some (Obj.loop r) ∧ w.heap.size ≤ l ∧
      (r.state = .ready ∧ r.pending = none ∧ r.fn = fn ∧ r.tmps = tmps ∧ r.params = ps ∧ r.assign = as ∧ r.body = body) ∧ Bk C w1 (mk ++ ds) := by
  have ext1 : ∀ (w : World) (o : Obj), Ext w (w.alloc o) := fun w o => ⟨rfl, rfl, rfl, by rw [World.size_alloc]; omega, fun b hb => Below.heap_alloc _ _ _ hb⟩
  cases ro with
  | none =>
    refine ⟨_, _, _, { state := .ready, pending := none, fn, tmps, params := ps, assign := as, body, defers := w.heap.size }, run_enterLoop_outer _ _ _ _ _, (ext1 _ _).trans (ext1 _ _), ?_, by omega, ⟨rfl, rfl, rfl, rfl, rfl, rfl, rfl⟩, ?_⟩
    · have := World.alloc_heap_new (w.alloc (.deferred (some []))) (.loop { state := .ready, pending := none, fn, tmps, params := ps, assign := as, body, defers := w.heap.size })
      rwa [World.size_alloc] at this
    · have e2 := (ext1 w (.deferred (some []))).trans (ext1 (w.alloc (.deferred (some []))) (.loop { state := .ready, pending := none, fn, tmps, params := ps, assign := as, body, defers := w.heap.size }))
      have hb2 := hbk.keep fun D o hD _ _ => e2.block D (lt_of_get hD)
      refine ⟨fun d hd => ?_, ?_, hb2.rd⟩
      · simp only [List.singleton_append, List.mem_cons] at hd
        rcases hd with rfl | hd
        · refine ⟨w.heap.size, rfl, ?_, .inl hW, fun h => by have := hF _ h; omega⟩
          exact ((ext1 _ _).block _ (by rw [World.size_alloc]; omega)).trans (World.alloc_heap_new w _)
        · exact hb2.marks d hd
      · simp only [List.singleton_append, List.nodup_cons]
        refine ⟨fun hm => ?_, hbk.nd⟩
        obtain ⟨D, h1, h2, _⟩ := hbk.marks _ hm
        simp at h1
        have := lt_of_get h2
        omega
  | some l₀ =>
    obtain ⟨⟨r₀, hr⟩, hF0⟩ := hbk.rd l₀ hro
    refine ⟨_, _, _, { state := .ready, pending := none, fn, tmps, params := ps, assign := as, body, defers := r₀.defers }, run_enterLoop_inner hr _ _ _ _ _, ext1 _ _, World.alloc_heap_new w _, Nat.le_refl _, ⟨rfl, rfl, rfl, rfl, rfl, rfl, rfl⟩, ?_⟩
    exact hbk.keep fun D o hD _ _ => (ext1 _ _).block D (lt_of_get hD)
end Go.Eng
