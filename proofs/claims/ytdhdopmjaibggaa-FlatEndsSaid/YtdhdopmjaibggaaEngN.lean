/- The engine, part N: a region that draws its order is walked in the text's order. -/
import Derived.Test.YtdhdopmjaibggaaEngM
set_option linter.unusedSimpArgs false
set_option linter.unusedVariables false
namespace Go.Eng
open Go Go.RowKit

def bindsA (e : Edge) : Bool := Region.binds .any e
def predsO (o : Oper) : List Nat := (o.after.toList.filter bindsA).map (·.on)
def usesT (o : Oper) : List Nat := o.op.operands.toList.filterMap fun x => match x with | .tmp t => some t | _ => none
def dstOf (ops : Array Oper) (j : Nat) : Option Nat := (ops[j]?).bind (·.dst)

/-- What the walk of the first m operations in the text's order asks of the edges; A: for each of them, those that come before it. -/
def drawOne (ops : Array Oper) (m : Nat) (A : List (List Nat × List Nat)) (i : Nat) (o : Oper) : Bool :=
  (predsO o).all (fun p => decide (p < i)) &&
  (decide (i < m) || (List.range m).all fun j => (predsO o).contains j || (A.getD i ([], [])).1.contains j) &&
  ((A.getD i ([], [])).1.all fun j => decide (j < i) && ((predsO o).contains j || (predsO o).any fun p => ((A.getD p ([], [])).1).contains j)) &&
  (decide (m ≤ i) ||
    (((List.range m).all fun j => j == i || (match dstOf ops j with
        | none => true
        | some d => (o.dst != some d) && (!(usesT o).contains d || (if j < i then (A.getD i ([], [])).1.contains j else ((A.getD j ([], [])).1).contains i)))) &&
     (match o.guard with | none => true | some (j, _) => decide (j < i) && (A.getD i ([], [])).1.contains j)))
/-- The tail comes in the text's order. -/
def tailOk (ops : Array Oper) (m : Nat) (A : List (List Nat × List Nat)) : Bool :=
  (List.range ops.size).all fun i => decide (i < m) || (match ops[i]? with | none => true | some o => (List.range i).all fun j => (predsO o).contains j || (A.getD i ([], [])).1.contains j)
def drawWk (ops : Array Oper) (m : Nat) (A : List (List Nat × List Nat)) : Bool :=
  decide (m ≤ ops.size) && ((List.range ops.size).all fun i => match ops[i]? with | none => true | some o => drawOne ops m A i o)
def drawOk (ops : Array Oper) (m : Nat) (A : List (List Nat × List Nat)) : Bool := drawWk ops m A && tailOk ops m A

/-- A slice that is made in a drawn region: it is only read; an empty one has no room. -/
def roB (b : Blk) : AV := match b.l with | [] => .ez | l => .ro b.e l

theorem srcK_mono {H : Nat → Option Blk} {z : Nat} {x : AV} {K K' : List (List AV) → Prop} (hK : ∀ l, K l → K' l) (h : srcK H z x K) : srcK H z x K' := by
  unfold srcK at *
  split at h
  · exact ⟨h.1, hK _ h.2⟩
  · exact hK _ h
  · split at h
    · exact ⟨h.1, h.2.1, hK _ h.2.2⟩
    · exact h.elim
  · exact hK _ h
  · exact ⟨h.1, hK _ h.2⟩
  · exact h.elim
theorem srcK_det {H : Nat → Option Blk} {z : Nat} {x : AV} {K : List (List AV) → Prop} (h : srcK H z x K) : ∃ l, K l ∧ srcK H z x (· = l) := by
  unfold srcK at *
  split at h
  · exact ⟨_, h.2, h.1, rfl⟩
  · exact ⟨_, h, rfl⟩
  · split at h
    · rename_i k hk; exact ⟨_, h.2.2, by (try rw [hk]); exact ⟨h.1, h.2.1, rfl⟩⟩
    · exact h.elim
  · exact ⟨_, h, rfl⟩
  · exact ⟨_, h.2, h.1, rfl⟩
  · exact h.elim
theorem run_build0 {P : Program} {w : World} {ρc : Operand → Value} {o : Oper} {t e : TypeId} (ho : o.op = .buildSlice t 0 #[]) (he : slT P t = some e) (hz : 0 < szT P e) :
    (execOp ρc o).run P w = .ok (.value (.slice (some ⟨w.heap.size, 0, none⟩) 0 0)) { w with heap := w.heap.push (.cells #[] e (0, 0)) } := by
  have hu := und_of_slT he
  obtain ⟨_, op, _, _, _, _⟩ := o
  simp only at ho; subst ho
  simp [execOp, Instr.buildSlice, run_underlying hu, run_sizeOf' hz, newRow, Instr.fill]
  congr 2
  apply Array.ext'
  rw [Array.toList_map]
  rfl
theorem apK_mono {P : Program} {ρ : Operand → AV} {H : Nat → Option Blk} {xs : List Operand} {ts : List TypeId} {K K' : List Nat → Nat → List (List AV) → Prop} (hK : ∀ a b c, K a b c → K' a b c) (h : apK P ρ H xs ts K) : apK P ρ H xs ts K' := by
  unfold apK at *
  split at h
  case h_2 => exact h.elim
  split at h
  case h_2 => exact h.elim
  obtain ⟨h1, h2, h⟩ := h
  refine ⟨h1, h2, ?_⟩
  have src : ∀ {z : Nat} {x : AV} {ns : List Nat} {d : List (List AV)}, srcK H z x (fun n => d.length + n.length ≤ 1099511627776 ∧ (∀ c ∈ n, ∀ s ∈ c, oneA s = true) ∧ K ns z (d ++ n)) → srcK H z x (fun n => d.length + n.length ≤ 1099511627776 ∧ (∀ c ∈ n, ∀ s ∈ c, oneA s = true) ∧ K' ns z (d ++ n)) :=
    fun hs => srcK_mono (fun n hn => ⟨hn.1, hn.2.1, hK _ _ _ hn.2.2⟩) hs
  unfold dstK at *
  split at h
  · split at h
    · exact ⟨h.1, h.2.1, src h.2.2⟩
    · exact h.elim
  · exact src h
  · exact src h
  · exact h.elim

theorem apK_det {P : Program} {ρ : Operand → AV} {H : Nat → Option Blk} {xs : List Operand} {ts : List TypeId} {K : List Nat → Nat → List (List AV) → Prop} (h : apK P ρ H xs ts K) :
    ∃ ns z l, K ns z l ∧ apK P ρ H xs ts (fun a b c => a = ns ∧ b = z ∧ c = l) := by
  unfold apK at h
  split at h
  case h_2 => exact h.elim
  split at h
  case h_2 => exact h.elim
  rename_i x1 x2 t1 t2 _ _ e he hi
  obtain ⟨h1, h2, h⟩ := h
  have src : ∀ {ns : List Nat} {d : List (List AV)}, srcK H (szT P e) (ρ x2) (fun n => d.length + n.length ≤ 1099511627776 ∧ (∀ c ∈ n, ∀ s ∈ c, oneA s = true) ∧ K ns (szT P e) (d ++ n)) →
      ∃ l, K ns (szT P e) l ∧ srcK H (szT P e) (ρ x2) (fun n => d.length + n.length ≤ 1099511627776 ∧ (∀ c ∈ n, ∀ s ∈ c, oneA s = true) ∧ (ns = ns ∧ szT P e = szT P e ∧ d ++ n = l)) := by
    intro ns d hs
    obtain ⟨n0, q1, q2⟩ := srcK_det hs
    exact ⟨_, q1.2.2, srcK_mono (fun n hn => by subst hn; exact ⟨q1.1, q1.2.1, rfl, rfl, rfl⟩) q2⟩
  unfold dstK at h
  split at h
  · rename_i hc
    split at h
    · rename_i k hk
      obtain ⟨l, q1, q2⟩ := src h.2.2
      refine ⟨_, _, l, q1, ?_⟩
      unfold apK; dsimp only; rw [he, hi]; refine ⟨h1, h2, ?_⟩
      unfold dstK; rw [hc]; dsimp only; rw [hk]; exact ⟨h.1, h.2.1, q2⟩
    · exact h.elim
  · rename_i hc
    obtain ⟨l, q1, q2⟩ := src h
    refine ⟨_, _, l, q1, ?_⟩
    unfold apK; dsimp only; rw [he, hi]; refine ⟨h1, h2, ?_⟩
    unfold dstK; rw [hc]; exact q2
  · rename_i hc
    obtain ⟨l, q1, q2⟩ := src h
    refine ⟨_, _, l, q1, ?_⟩
    unfold apK; dsimp only; rw [he, hi]; refine ⟨h1, h2, ?_⟩
    unfold dstK; rw [hc]; exact q2
  · exact h.elim

theorem srcK_moreH {H H' : Nat → Option Blk} {z : Nat} {x : AV} {K : List (List AV) → Prop} (hH : ∀ n b, H n = some b → H' n = some b) (h : srcK H z x K) : srcK H' z x K := by
  unfold srcK at *
  split at h
  · exact h
  · exact h
  · split at h
    · rename_i k hk; rw [hH _ _ hk]; exact h
    · exact h.elim
  · exact h
  · exact h
  · exact h.elim
theorem apK_more {P : Program} {ρ ρ' : Operand → AV} {H H' : Nat → Option Blk} {xs : List Operand} {ts : List TypeId} {K : List Nat → Nat → List (List AV) → Prop} (hρ : ∀ x ∈ xs, ρ x = ρ' x) (hH : ∀ n b, H n = some b → H' n = some b)
    (h : apK P ρ H xs ts K) : apK P ρ' H' xs ts K := by
  unfold apK at *
  split at h
  case h_2 => exact h.elim
  split at h
  case h_2 => exact h.elim
  obtain ⟨h1, h2, h⟩ := h
  refine ⟨h1, h2, ?_⟩
  rw [← hρ _ List.mem_cons_self, ← hρ _ (List.mem_cons_of_mem _ List.mem_cons_self)]
  unfold dstK at *
  split at h
  · split at h
    · rename_i k hk; rw [hH _ _ hk]; exact ⟨h.1, h.2.1, srcK_moreH hH h.2.2⟩
    · exact h.elim
  · exact srcK_moreH hH h
  · exact srcK_moreH hH h
  · exact h.elim

def qopK (P : Program) (ρ : Operand → AV) (H : Nat → Option Blk) (o : Oper) (n : Nat) (K : AV → Option Blk → Prop) : Prop :=
  match o.op with
  | .box _ _ | .alloc _ | .makeSlice _ _ _ => nev P ρ o.op n fun av b => K av (some b)
  | .buildSlice _ _ _ => nev P ρ o.op n fun _ b => K (roB b) none
  | .call ⟨.builtin .append, xs, ts⟩ => apK P ρ H xs.toList ts.toList fun ns z l => ns = [] ∧ K (.sl n 0 l.length) (some ⟨z, l⟩)
  | .call ⟨.value f, xs, _⟩ => (match ρ f with | .fn fi caps => ∃ R, ((∀ a ∈ xs.toList.map ρ ++ caps, Cl a) ∧ PFun P fi (xs.toList.map ρ ++ caps) R) ∧ K R none | _ => False)
  | _ => qev P ρ H o.op fun av => K av none

def addB (s : AState) (n : Nat) : Option Blk → AState
  | none => s
  | some b => { s with h := (n, b) :: s.h }

def maskH (s0 s : AState) (A : List (List Nat × List Nat)) (i : Nat) : Nat → Option Blk :=
  fun k => if (A.getD i ([], [])).2.contains k then none else if k < s0.k then find s0.h k else if (A.getD i ([], [])).1.contains (k - s0.k) then find s.h k else none

def vcQ (P : Program) (A : List (List Nat × List Nat)) (all : Array Oper) (s0 : AState) (F : AState → Prop) : List Oper → Nat → AState → Prop
  | [], _, s => F s
  | o :: r, i, s =>
    match o.guard with
    | none => qopK P (evA s.t) (maskH s0 s A i) o (s0.k + i) fun av nb => vcQ P A all s0 F r (i + 1) (putA (addB s (s0.k + i) nb) o.dst av)
    | some _ => (match guardA all s.t o with
      | some (b, want) => (b = want → qopK P (evA s.t) (maskH s0 s A i) o (s0.k + i) fun av nb => vcQ P A all s0 F r (i + 1) (putA (addB s (s0.k + i) nb) o.dst av)) ∧
          (b ≠ want → vcQ P A all s0 F r (i + 1) (putA s o.dst un))
      | none => False)

section
variable {P : Program} {ρ ρ' : Operand → AV} {H H' : Nat → Option Blk} {o : Oper} {n : Nat} {K : AV → Option Blk → Prop}
theorem qopK_det (h : qopK P ρ H o n K) : ∃ av nb, K av nb ∧ qopK P ρ H o n (fun x y => x = av ∧ y = nb) := by
  unfold qopK at h
  unfold qopK
  split at h
  · obtain ⟨av, b, h1, h2⟩ := nev_det h
    refine ⟨av, some b, h1, ?_⟩
    simp only [Option.some.injEq]; exact h2
  · obtain ⟨av, b, h1, h2⟩ := nev_det h
    refine ⟨av, some b, h1, ?_⟩
    simp only [Option.some.injEq]; exact h2
  · obtain ⟨av, b, h1, h2⟩ := nev_det h
    refine ⟨av, some b, h1, ?_⟩
    simp only [Option.some.injEq]; exact h2
  · obtain ⟨av, b, h1, h2⟩ := nev_det h
    refine ⟨_, none, h1, ?_⟩
    exact nev_mono (fun x y hxy => by obtain ⟨_, rfl⟩ := hxy; exact ⟨rfl, rfl⟩) h2
  · obtain ⟨ns, z, l, ⟨rfl, h1⟩, h2⟩ := apK_det h
    refine ⟨_, _, h1, ?_⟩
    exact apK_mono (fun a b c ⟨e1, e2, e3⟩ => by subst e1; subst e2; subst e3; exact ⟨rfl, rfl, rfl⟩) h2
  · split at h
    · obtain ⟨R, h1, h2⟩ := h; exact ⟨R, none, h2, R, h1, rfl, rfl⟩
    · exact h.elim
  · obtain ⟨av, h1, h2⟩ := qev_det h
    refine ⟨av, none, h1, ?_⟩
    simp only [and_true]; exact h2

theorem qopK_more (hρ : ∀ x ∈ o.op.operands.toList, ρ x = ρ' x) (hH : ∀ n b, H n = some b → H' n = some b) (h : qopK P ρ H o n K) : qopK P ρ' H' o n K := by
  obtain ⟨dst, op, ty, pos, af, g⟩ := o
  cases op
  case box t x => simp only [qopK] at h ⊢; exact nev_moreρ hρ h
  case alloc t => simp only [qopK] at h ⊢; exact nev_moreρ hρ h
  case makeSlice t l c => simp only [qopK] at h ⊢; exact nev_moreρ hρ h
  case buildSlice t len parts => simp only [qopK] at h ⊢; exact nev_moreρ hρ h
  case call c =>
    obtain ⟨callee, xs, ts⟩ := c
    cases callee with
    | value f =>
      simp only [qopK] at *
      have e1 : ρ f = ρ' f := hρ f (by simp [Op.operands, Call.operands])
      have e2 : xs.toList.map ρ = xs.toList.map ρ' := evs_eq fun x hx => hρ x (by simp only [Op.operands, Call.operands]; rw [Array.toList_append]; exact List.mem_append_right _ hx)
      rw [← e1, ← e2]; exact h
    | builtin b =>
      cases b
      case append =>
        simp only [qopK] at h ⊢
        exact apK_more (fun x hx => hρ x (by simp only [Op.operands, Call.operands]; rw [Array.toList_append]; exact List.mem_append_right _ hx)) hH h
      all_goals (simp only [qopK] at h ⊢; exact qev_moreH hH (qev_moreρ hρ h))
    | invoke r m => simp only [qopK] at h ⊢; exact h.elim
  all_goals (simp only [qopK] at h ⊢; exact qev_moreH hH (qev_moreρ hρ h))
end

section
variable {C : Ctx} {s : AState} {β : Bt} {a : Act} {w : World}

theorem StR.pushAt (h : StR C s β a w) {n : Nat} (hfresh : β n = none) (hne : ∀ p ∈ s.h, p.1 ≠ n) (hlt : n < s.k) {k : Blk} {c : Array Value} {t : TypeId} (hc : NewR (XOf C.F β s.h) β w k c) :
    StR C { s with h := (n, k) :: s.h } (updB β n (w.heap.size, 0, k.e)) a { w with heap := w.heap.push (.cells c t (0, 0)) } := by
  have hup : ∀ p ∈ s.h, updB β n (w.heap.size, 0, k.e) p.1 = β p.1 := fun p hp => by simp [updB, hne p hp]
  have hFlt : ∀ b, C.F b → b < w.heap.size := fun b hb => Nat.lt_of_lt_of_le (h.Flt b hb) h.fr.size
  have m : Mono (XOf C.F β s.h) β w (XOf C.F (updB β n (w.heap.size, 0, k.e)) ((n, k) :: s.h)) (updB β n (w.heap.size, 0, k.e)) { w with heap := w.heap.push (.cells c t (0, 0)) } := by
    refine ⟨fun b hb hn => ?_, fun q r hr => ?_, by simp, fun b hb _ => (Ext.push w _).block b hb, fun _ _ _ hs => (Ext.push w _).shape hs⟩
    · rcases hb with hb | ⟨p, hp, o, e, hb⟩
      · exact absurd (.inl hb) hn
      · simp only [List.mem_cons] at hp
        rcases hp with rfl | hp
        · simp [updB] at hb; omega
        · rw [hup p hp] at hb; exact absurd (.inr ⟨p, hp, o, e, hb⟩) hn
    · unfold updB; split
      · rename_i hn; subst hn; rw [hfresh] at hr; cases hr
      · exact hr
  refine ⟨h.defers.keep fun D _ hD _ _ => (Ext.push w _).block D (lt_of_get hD), h.size, fun i => (h.tm i).mono m, fun p hp => ?_, fun p hp => ?_, fun q r hr => ?_, ?_, ?_, ?_, h.fr.ext (Ext.push w _), h.Flt, h.sv.mono m, h.yy⟩
  · simp only [List.mem_cons] at hp
    rcases hp with rfl | hp
    · refine .inl ⟨w.heap.size, 0, c, t, by simp [updB], by simp, hc.1, by simpa using hc.2.1, fun i j ch s hi hj => ?_⟩
      obtain ⟨u, hu, hr⟩ := hc.2.2 i j ch s hi hj
      exact ⟨u, by simpa using hu, hr.mono m⟩
    · refine (h.own p hp).mono m (fun b o e hb => (Ext.push w _).block b (h.lt_size hp hb)) (fun hn => by rw [hup p hp]; exact hn)
  · simp only [List.mem_cons] at hp
    rcases hp with rfl | hp
    · exact hlt
    · exact h.lt p hp
  · unfold updB at hr
    split at hr
    · rename_i hn; subst hn; exact hlt
    · exact h.βlt _ _ hr
  · simp only [List.map_cons, List.nodup_cons]
    refine ⟨fun hm => ?_, h.nd⟩
    obtain ⟨p, hp, he⟩ := List.mem_map.1 hm
    exact hne p hp he
  · intro p hp q hq b o e o' e' h1 h2
    simp only [List.mem_cons] at hp hq
    rcases hp with rfl | hp <;> rcases hq with rfl | hq
    · rfl
    · rw [hup q hq] at h2
      have := h.lt_size hq h2
      simp [updB] at h1; omega
    · rw [hup p hp] at h1
      have := h.lt_size hp h1
      simp [updB] at h2; omega
    · rw [hup p hp] at h1; rw [hup q hq] at h2
      exact h.inj p hp q hq b o e o' e' h1 h2
  · intro p hp b o e hb
    simp only [List.mem_cons] at hp
    rcases hp with rfl | hp
    · simp [updB] at hb
      obtain ⟨rfl, _⟩ := hb
      exact ⟨.inl h.fr.size, fun hF => by have := hFlt _ hF; omega⟩
    · rw [hup p hp] at hb; exact h.mine p hp b o e hb

theorem StR.addNilAt (h : StR C s β a w) {n : Nat} (hnone : β n = none) (hne : ∀ p ∈ s.h, p.1 ≠ n) (hlt : n < s.k) (z : Nat) : StR C { s with h := (n, ⟨z, []⟩) :: s.h } β a w := by
  have hX : ∀ b, XOf C.F β ((n, ⟨z, []⟩) :: s.h) b → XOf C.F β s.h b := by
    rintro b (hb | ⟨p, hp, o, e, hb⟩)
    · exact .inl hb
    · simp only [List.mem_cons] at hp
      rcases hp with rfl | hp
      · rw [hnone] at hb; cases hb
      · exact .inr ⟨p, hp, o, e, hb⟩
  have m : Mono (XOf C.F β s.h) β w (XOf C.F β ((n, ⟨z, []⟩) :: s.h)) β w := ⟨fun b h1 h2 => absurd (hX b h1) h2, fun _ _ h => h, Nat.le_refl _, fun _ _ _ => rfl, fun _ _ _ h => h⟩
  refine ⟨h.defers, h.size, fun i => (h.tm i).mono m, fun p hp => ?_, fun p hp => ?_, h.βlt, ?_, ?_, ?_, h.fr, h.Flt, h.sv.mono m, h.yy⟩
  · simp only [List.mem_cons] at hp
    rcases hp with rfl | hp
    · exact .inr ⟨rfl, hnone⟩
    · exact (h.own p hp).mono m (fun _ _ _ _ => rfl) (fun h => h)
  · simp only [List.mem_cons] at hp
    rcases hp with rfl | hp
    · exact hlt
    · exact h.lt p hp
  · simp only [List.map_cons, List.nodup_cons]
    refine ⟨fun hm => ?_, h.nd⟩
    obtain ⟨p, hp, he⟩ := List.mem_map.1 hm
    exact hne p hp he
  · intro p hp q hq b o e o' e' h1 h2
    simp only [List.mem_cons] at hp hq
    rcases hp with rfl | hp
    · rw [hnone] at h1; cases h1
    · rcases hq with rfl | hq
      · rw [hnone] at h2; cases h2
      · exact h.inj p hp q hq b o e o' e' h1 h2
  · intro p hp b o e hb
    simp only [List.mem_cons] at hp
    rcases hp with rfl | hp
    · rw [hnone] at hb; cases hb
    · exact h.mine p hp b o e hb

/-- Appending to what is empty and has no room makes a slice. -/
theorem apQ_sound (h : StR C s β a w) {n : Nat} (hfresh : β n = none) (hne : ∀ p ∈ s.h, p.1 ≠ n) (hlt : n < s.k) {o : Oper} {xs : Array Operand} {ts : Array TypeId} (ho : o.op = .call ⟨.builtin .append, xs, ts⟩) {K : Nat → List (List AV) → Prop}
    (hs : apK C.P (evA s.t) (find s.h) xs.toList ts.toList fun ns z l => ns = [] ∧ K z l) :
    ∃ z l u w' β', K z l ∧ (execOp a.eval o).run C.P w = .ok (.value u) w' ∧ StR C { s with h := (n, ⟨z, l⟩) :: s.h } β' a w' ∧ (∀ q, q ≠ n → β' q = β q) ∧
      RS (XOf C.F β' ((n, ⟨z, l⟩) :: s.h)) β' w' (.sl n 0 l.length) u := by
  unfold apK at hs
  split at hs
  case h_2 => exact hs.elim
  rename_i x1 x2 t1 t2 hxs hts
  obtain rfl : xs = #[x1, x2] := by apply Array.ext'; simp [hxs]
  obtain rfl : ts = #[t1, t2] := by apply Array.ext'; simp [hts]
  split at hs
  case h_2 => exact hs.elim
  rename_i e he hni
  obtain ⟨⟨hz, hby, hze⟩, hd2, hs⟩ := hs
  obtain ⟨zl, hzl, hzs⟩ : ∃ zl, zeT C.P e = some zl ∧ zl.length = szT C.P e := by
    cases hq : zeT C.P e with
    | none => simp [hq] at hze
    | some zl => simp [hq] at hze; exact ⟨zl, rfl, hze⟩
  obtain ⟨d2, hd2⟩ := Option.isSome_iff_exists.mp hd2
  have hu := und_of_slT he
  have hv1 := h.read x1
  have hv2 := h.read x2
  have hrun : ∀ u w', (Builtin.append_ #[t1, t2] o.type #[a.eval x1, a.eval x2]).run C.P w = .ok u w' → (execOp a.eval o).run C.P w = .ok (.value u) w' := by
    intro u w' hr
    obtain ⟨_, op, _, _, _, _⟩ := o
    simp only at ho; subst ho
    simp [execOp, resolve, invoke, builtin, hr]
  have main : ∀ ad, a.eval x1 = .slice ad 0 0 → srcK (find s.h) (szT C.P e) (evA s.t x2) (fun l => ([] : List (List AV)).length + l.length ≤ 1099511627776 ∧ (∀ c ∈ l, ∀ s ∈ c, oneA s = true) ∧ ([] : List Nat) = [] ∧ K (szT C.P e) ([] ++ l)) →
      ∃ z l u w' β', K z l ∧ (execOp a.eval o).run C.P w = .ok (.value u) w' ∧ StR C { s with h := (n, ⟨z, l⟩) :: s.h } β' a w' ∧ (∀ q, q ≠ n → β' q = β q) ∧
      RS (XOf C.F β' ((n, ⟨z, l⟩) :: s.h)) β' w' (.sl n 0 l.length) u := by
    intro ad hva hs
    obtain ⟨l, cs, ⟨hbig, hone, _, hK⟩, hlen, hfc, hrow⟩ := srcK_sound h hv2 hs
    rw [List.nil_append] at hK
    rw [hva] at hrun
    by_cases hl0 : l.length = 0
    · have hl0' : l = [] := List.eq_nil_of_length_eq_zero hl0
      subst hl0'
      have hcs : cs = #[] := by have := hrow.2.1; simp at this; exact this
      subst hcs
      have hr := run_append_in (P := C.P) (w := w) (ty := o.type) hu hd2 hni hz (base := ad) (len := 0) (cap := 0) hlen (by simp) (hfc w rfl) (w' := w) (by cases ad <;> simp [storeCells])
      exact ⟨_, _, _, w, β, hK, hrun _ _ hr, h.addNilAt hfresh hne hlt _, fun _ _ => rfl, .slz⟩
    · obtain ⟨nc, rest, w1, q1, q2, q3, q4, q5, q6, q7⟩ := run_append_out (P := C.P) (w := w) (ty := o.type) hu hd2 hni hz hby hzl hzs (base := ad) (len := 0) (cap := 0) (old := #[]) hlen (by omega) (by simp at hbig; omega)
        (fun w' _ => by cases ad <;> simp [Builtin.firstCells, loadCells, loadCellsFrom]) hfc
      simp only [Array.empty_append, Nat.zero_add] at q6 q1 q2 q7
      have hd := h.pushAt (n := n) hfresh hne hlt (k := ⟨szT C.P e, l⟩) (c := cs ++ rest) (t := e) hrow.newR
      refine ⟨_, _, _, w1, _, hK, hrun _ _ q7, hd.same (w' := w1) q3 q4 q5 q6, fun q hq => by simp [updB, hq], ?_⟩
      have := RS.sl (X := XOf C.F (updB β n (w.heap.size, 0, szT C.P e)) ((n, ⟨szT C.P e, l⟩) :: s.h)) (β := updB β n (w.heap.size, 0, szT C.P e)) (w := w1) (n := n) (i := 0) (len := l.length) (cap := nc) (b := w.heap.size) (o := 0) (e := szT C.P e) (m := (cs ++ rest).size) (t := e)
        (by simp [updB]) q1 (by simp [World.shape?, q6]) (by
          simp [hrow.2.1, q2, ← Nat.add_mul]
          exact Nat.mul_le_mul_right _ (by omega))
      simpa using this
  unfold dstK at hs
  split at hs
  · rename_i hx1
    split at hs
    case h_2 => exact hs.elim
    rename_i k hk
    obtain ⟨_, _, hs⟩ := hs
    obtain ⟨l, cs, ⟨_, _, hf, _⟩, _⟩ := srcK_sound h hv2 hs
    cases hf
  · rename_i hx1
    rw [hx1] at hv1
    generalize hv : a.eval x1 = va at hv1
    cases hv1
    exact main none hv hs
  · rename_i hx1
    rw [hx1] at hv1
    generalize hv : a.eval x1 = va at hv1
    cases hv1
    exact main _ hv hs
  · exact hs.elim

/-- One operation of the walk, on the machine. -/
theorem qop_step (h : StR C s β a w) {H : Nat → Option Blk} {o : Oper} {n : Nat} {av : AV} {nb : Option Blk} (hH : ∀ k b, H k = some b → find s.h k = some b)
    (hfresh : β n = none) (hne : ∀ p ∈ s.h, p.1 ≠ n) (hlt : n < s.k) (hq : qopK C.P (evA s.t) H o n (fun x y => x = av ∧ y = nb)) {next : Act → World → Prop} {E : Exit → Act → World → Prop}
    (hnext : ∀ a' w' β', StR C (putA (addB s n nb) o.dst av) β' a' w' → (∀ q, q ≠ n → β' q = β q) → next a' w') {ro : Option Nat} : o.wpIn (wd ro) 0 C.P a w next E := by
  have hd : ∀ c, o.op ≠ .defer c := by
    intro c hc
    unfold qopK at hq
    rw [hc] at hq
    exact hq
  refine ⟨fun _ _ => trivial, ?_⟩
  rw [Oper.semAt_eq _ _ _ hd]
  have newb : nev C.P (evA s.t) o.op n (fun x y => x = av ∧ some y = nb) → Oper.uponIn (wd ro) 0 C.P o a next E ((execOp a.eval o).run C.P w) := by
    intro hq
    obtain ⟨av', b, u, c, t, hK, hr, hN, hV⟩ := nev_sound (P := C.P) (fun x => h.read x) hq
    obtain ⟨rfl, rfl⟩ := hK
    rw [hr]
    have h' := h.pushAt (t := t) hfresh hne hlt hN
    refine hnext _ _ _ (h'.put (hV _ _ _ (by simp [updB]) (by simp [World.shape?])) o.dst) fun q hq => by simp [updB, hq]
  unfold qopK at hq
  split at hq
  · exact newb (nev_mono (fun _ _ h => h) hq)
  · exact newb (nev_mono (fun _ _ h => h) hq)
  · exact newb (nev_mono (fun _ _ h => h) hq)
  · rename_i t len parts ho
    -- a slice that is made is read only
    rw [ho] at hq
    simp only [nev] at hq
    split at hq
    case h_2 => exact hq.elim
    rename_i e he
    obtain ⟨h1, cs, h2, rfl, rfl⟩ := hq
    have hcl := chunksA_len _ _ h2
    have hlen : cs.length = len := by
      rw [hcl.1]
      have := congrArg List.length h1.2.2.2
      simpa using this
    have hq' : nev C.P (evA s.t) o.op n (fun x y => x = .sl n 0 len ∧ y = ⟨szT C.P e, cs⟩) := by
      rw [ho]; simp only [nev]; rw [he]; refine ⟨h1, cs, h2, ?_⟩; simp
    by_cases hc0 : cs = []
    · subst hc0
      have hl0 : len = 0 := by simpa using hlen.symm
      subst hl0
      have hp0 : parts = #[] := by
        have := h1.2.2.2
        simp at this
        exact this
      subst hp0
      rw [run_build0 ho he h1.1]
      have hx := h.ext (Ext.push w (.cells #[] e (0, 0)))
      exact hnext _ _ _ (hx.put .ez o.dst) fun q hq => rfl
    obtain ⟨av', b, u, c, t', hK, hr, hN, hV⟩ := nev_sound (P := C.P) (fun x => h.read x) hq'
    obtain ⟨rfl, rfl⟩ := hK
    rw [hr]
    have he := h.ext (Ext.push w (.cells c t' (0, 0)))
    refine hnext _ _ _ (he.put ?_ o.dst) fun q hq => rfl
    have hnl : ¬ XOf C.F β s.h w.heap.size := by
      rintro (hb | ⟨p, hp, o', e, hb⟩)
      · have := h.Flt _ hb; have := h.fr.size; omega
      · have := h.lt_size hp hb; omega
    have hu := hV (XOf C.F β s.h) (updB B0 n (w.heap.size, 0, szT C.P e)) { w with heap := w.heap.push (.cells c t' (0, 0)) } (by simp [updB]) (by simp [World.shape?])
    obtain ⟨n1, n2, n3⟩ := hN
    simp only at n1 n2 n3
    cases hu with
    | slz =>
      exact absurd (List.eq_nil_of_length_eq_zero hlen) hc0
    | sl hb hl hs hc =>
      simp [updB] at hb
      obtain ⟨rfl, rfl, rfl⟩ := hb
      rw [← hlen] at hl ⊢
      have hgo := RS.ro (X := XOf C.F β s.h) (β := β) (w := { w with heap := w.heap.push (.cells c t' (0, 0)) }) (e := szT C.P e) (l := cs) (b := w.heap.size) (o := 0) (fun k => c.getD k undef) hnl ⟨c, t', (0, 0), by simp⟩ hl n1
        (fun k hk => by
          have hlt : k < c.size := by omega
          simp [World.cell?, hlt])
        (fun i j ch s' hi hj => by
          obtain ⟨v, hv, hr⟩ := n3 i j ch s' hi hj
          have : c.getD (i * szT C.P e + j) undef = v := by
            have hlt := (Array.getElem?_eq_some_iff.1 hv).1
            simpa [Array.getD, hlt] using (Array.getElem?_eq_some_iff.1 hv).2
          rw [this]
          exact hr.mono ((Ext.push w _).mono _ _))
      have hro : roB ⟨szT C.P e, cs⟩ = .ro (szT C.P e) cs := by
        cases hcs : cs with
        | nil => exact absurd hcs hc0
        | cons x r => rfl
      rw [hro]
      simpa using hgo
  · rename_i xs ats ho
    obtain ⟨z, l, u, w', β', ⟨rfl, rfl⟩, hr, hst, hβ', hR⟩ := apQ_sound h hfresh hne hlt ho (K := fun z l => .sl n 0 l.length = av ∧ some ⟨z, l⟩ = nb) (apK_more (fun _ _ => rfl) hH hq)
    rw [hr]
    exact hnext _ _ _ (hst.put hR o.dst) hβ'
  · rename_i fo xs ats ho
    split at hq
    case h_2 => exact hq.elim
    rename_i f caps hf
    obtain ⟨R, ⟨hcl, hfun⟩, rfl, rfl⟩ := hq
    obtain ⟨⟨fn, hfn, hname, hbody⟩, hcall⟩ := hfun
    have hfr := h.read fo
    rw [hf] at hfr
    generalize hv : a.eval fo = va at hfr
    cases hfr with
    | fn hl hR =>
      rename_i vs
      obtain ⟨ha1, ha2⟩ := args_get (fun x => h.read x) xs
      have hrun : (execOp a.eval o).run C.P w = .ok (.enter f (xs.map a.eval ++ vs)) w := by
        obtain ⟨_, op, _, _, _, _⟩ := o
        simp only at ho; subst ho
        have hnb : ¬ fn.body = none := by cases hb : fn.body <;> simp_all
        have hne : ¬ fn.name = "runtime.NumGoroutine" := by simpa using hname
        simp [execOp, resolve, hv, Deferred.ofValue, invoke, callFunc, hfn, hne, hnb]
      rw [hrun]
      have hX : ∀ b, XOf C.F β s.h b → b < w.heap.size := by
        rintro b (hb | ⟨p, hp, o', e, hb⟩)
        · exact Nat.lt_of_lt_of_le (h.Flt b hb) h.fr.size
        · exact h.lt_size hp hb
      refine ⟨wd_depth, callsIn_wd ?_⟩
      refine Calls.mono (hcall _ w (xs.map a.eval ++ vs) hX (by simp at ha1 hl ⊢; omega) (fun q sv u hsv hu => ?_)) ?_
      · have hmem : sv ∈ xs.toList.map (evA s.t) ++ caps := List.mem_of_getElem? hsv
        have hrs : RS (XOf C.F β s.h) β w sv u := by
          by_cases hq : q < (xs.toList.map (evA s.t)).length
          · rw [List.getElem?_append_left hq] at hsv
            rw [Array.getElem?_append_left (by omega)] at hu
            exact ha2 q sv u hsv hu
          · rw [List.getElem?_append_right (by omega)] at hsv
            rw [Array.getElem?_append_right (by omega)] at hu
            rw [← ha1] at hu
            exact hR _ sv u hsv hu
        exact hrs.closed (hcl _ hmem) B0
      · rintro e w' ⟨v, rfl, hRv, hext⟩
        have hRv' : RS (XOf C.F β s.h) β w' R v := hRv.mono ⟨fun _ h h' => absurd h h', (fun _ _ h => by cases h), Nat.le_refl _, fun _ _ _ => rfl, fun _ _ _ h => h⟩
        exact hnext _ _ _ ((h.ext hext).put hRv' o.dst) fun q hq => rfl
  · obtain ⟨av', u, hK, hr, hR⟩ := qev_sound (fun x => h.read x) (fun k b hb => h.look k b (hH k b hb)) hq
    obtain ⟨rfl, rfl⟩ := hK
    rw [hr]
    exact hnext _ _ _ (h.put hR o.dst) fun q hq => rfl
end
end Go.Eng
