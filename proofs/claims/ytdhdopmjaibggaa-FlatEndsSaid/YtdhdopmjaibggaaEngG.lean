/- The engine, part G: append. -/
import Derived.Test.YtdhdopmjaibggaaEngF
set_option linter.unusedSimpArgs false
set_option linter.unusedVariables false
namespace Go.Eng
open Go Go.RowKit

def srcK (H : Nat → Option Blk) (z : Nat) (x : AV) (K : List (List AV) → Prop) : Prop :=
  match x with
  | .ro e l => e = z ∧ K l
  | .ez => K []
  | .sl n i len => (match H n with | some k => k.e = z ∧ i + len ≤ k.l.length ∧ K (takeA i len k.l) | none => False)
  | .v (.slice none 0 0) => K []
  | .v (.string s) => z = 1 ∧ K (s.data.toList.map fun b => [.v (.int .u8 b.toNat)])
  | _ => False

def dstK (H : Nat → Option Blk) (z : Nat) (x : AV) (K : List Nat → List (List AV) → Prop) : Prop :=
  match x with
  | .sl n i len => (match H n with | some k => k.e = z ∧ i + len ≤ k.l.length ∧ K [n] (takeA i len k.l) | none => False)
  | .v (.slice none 0 0) => K [] []
  | .ez => K [] []
  | _ => False

/-- append: the names that are used up, the new contents. -/
def apK (P : Program) (ρ : Operand → AV) (H : Nat → Option Blk) (xs : List Operand) (ts : List TypeId) (K : List Nat → Nat → List (List AV) → Prop) : Prop :=
  match xs, ts with
  | [s, x], [t, t2] =>
    (match slT P t, ikT P t2 with
     | some e, none =>
       (0 < szT P e ∧ byT P e ≤ 64 ∧ (match zeT P e with | some z => z.length = szT P e | none => False)) ∧ (P.underlying t2).isSome = true ∧
       dstK H (szT P e) (ρ s) fun ns d => srcK H (szT P e) (ρ x) fun n => d.length + n.length ≤ 1099511627776 ∧ (∀ c ∈ n, ∀ s ∈ c, oneA s = true) ∧ K ns (szT P e) (d ++ n)
     | _, _ => False)
  | _, _ => False

section
variable {C : Ctx} {s : AState} {β : Bt} {a : Act} {w : World}

/-- What loading a row of cells off a slice gives. -/
def Row (X : Nat → Prop) (β : Bt) (w : World) (z : Nat) (l : List (List AV)) (cs : Array Value) : Prop :=
  (∀ c ∈ l, c.length = z) ∧ cs.size = l.length * z ∧ ∀ (i j : Nat) (c : List AV) (s : AV), l[i]? = some c → c[j]? = some s → ∃ u, cs[i * z + j]? = some u ∧ RS X β w s u

theorem Row.get {X : Nat → Prop} {β : Bt} {w : World} {z : Nat} {l : List (List AV)} {cs : Array Value} (h : Row X β w z l cs) (q : Nat) (u : Value) (hq : cs[q]? = some u) (hz : 0 < z) :
    ∃ c s, l[q / z]? = some c ∧ c[q % z]? = some s ∧ RS X β w s u := by
  have hlt : q < l.length * z := by have := (Array.getElem?_eq_some_iff.1 hq).1; rw [h.2.1] at this; exact this
  have h1 : q / z < l.length := (Nat.div_lt_iff_lt_mul hz).2 hlt
  have h2 : l[q / z].length = z := h.1 _ (List.getElem_mem h1)
  have h3 : q % z < l[q / z].length := by rw [h2]; exact Nat.mod_lt _ hz
  obtain ⟨u', hu', hr⟩ := h.2.2 (q / z) (q % z) _ _ (List.getElem?_eq_getElem h1) (List.getElem?_eq_getElem h3)
  rw [Nat.div_add_mod' q z] at hu'
  rw [hq] at hu'; cases hu'
  exact ⟨_, _, List.getElem?_eq_getElem h1, List.getElem?_eq_getElem h3, hr⟩

theorem run_firstCells {P : Program} {z m b o : Nat} {c cap : Nat} (u : Nat → Value) (hu : ∀ q, q < m * z → w.cell? ⟨b, o + q, none⟩ = some (u q)) :
    (Builtin.firstCells z m (.slice (some ⟨b, o, none⟩) c cap)).run P w = .ok ((List.range (m * z)).map u).toArray w := by
  simp only [Builtin.firstCells]
  exact run_loadCells w _ _ u fun j hj => by rw [addr_add]; exact hu j hj

theorem own_row (h : StR C s β a w) {n i len : Nat} {k : Blk} (hk : find s.h n = some k) (hle : i + len ≤ k.l.length) {b o e : Nat} (hb : β n = some (b, o, e)) :
    ∃ u : Nat → Value, (∀ q, q < len * k.e → w.cell? ⟨b, o + i * k.e + q, none⟩ = some (u q)) ∧ Row (XOf C.F β s.h) β w k.e (takeA i len k.l) ((List.range (len * k.e)).map u).toArray := by
  rcases h.look n k hk with ⟨b', o', c, t', h1, h2, h3, h4, h5⟩ | ⟨h1, h2⟩
  · rw [h1] at hb; cases hb
    have hmul : (i + len) * k.e ≤ k.l.length * k.e := Nat.mul_le_mul_right _ hle
    rw [Nat.add_mul] at hmul
    refine ⟨fun q => c.getD (o + i * k.e + q) undef, fun q hq => ?_, fun ch hch => ?_, ?_, fun i' j ch s' hi hj => ?_⟩
    · have hlt : o + i * k.e + q < c.size := by omega
      simp [World.cell?, h2, hlt]
    · rw [takeA_eq] at hch; exact h3 ch (List.mem_of_mem_drop (List.mem_of_mem_take hch))
    · rw [takeA_eq]; simp; rw [Nat.min_eq_left (by omega)]
    · rw [takeA_eq, List.getElem?_take] at hi
      split at hi
      case isFalse => cases hi
      rename_i hil
      rw [List.getElem?_drop] at hi
      obtain ⟨v, hv, hr⟩ := h5 (i + i') j ch s' hi hj
      have hch := h3 ch (List.mem_of_getElem? hi)
      have hj' := (List.getElem?_eq_some_iff.1 hj).1
      have hm2 : (i' + 1) * k.e ≤ len * k.e := Nat.mul_le_mul_right _ hil
      rw [Nat.succ_mul] at hm2
      refine ⟨v, ?_, hr⟩
      simp only [List.getElem?_toArray, List.getElem?_map]
      rw [List.getElem?_range (by omega)]
      simp only [Option.map_some, Option.some.injEq]
      rw [Nat.add_mul] at hv
      have he : o + (i * k.e + i' * k.e) + j = o + i * k.e + (i' * k.e + j) := by omega
      rw [he] at hv
      have hlt := (Array.getElem?_eq_some_iff.1 hv).1
      simpa [Array.getD, hlt] using (Array.getElem?_eq_some_iff.1 hv).2
  · rw [hb] at h2; cases h2

theorem Row.nil {X : Nat → Prop} {z : Nat} : Row X β w z [] #[] := ⟨fun _ h => absurd h (by simp), by simp, fun i j c s hi => by simp at hi⟩

theorem srcK_sound (h : StR C s β a w) {z : Nat} {x : AV} {v : Value} {K : List (List AV) → Prop} (hx : RS (XOf C.F β s.h) β w x v) (hs : srcK (find s.h) z x K) :
    ∃ l cs, K l ∧ (Builtin.lenOf v).run C.P w = .ok l.length w ∧ (∀ w', w'.heap = w.heap → (Builtin.firstCells z l.length v).run C.P w' = .ok cs w') ∧ Row (XOf C.F β s.h) β w z l cs := by
  unfold srcK at hs
  split at hs
  · rename_i e l
    obtain ⟨rfl, hK⟩ := hs
    cases hx with
    | ro0 =>
      rename_i cap ad
      refine ⟨[], #[], hK, by simp [Builtin.lenOf], fun w' _ => ?_, .nil⟩
      cases ad <;> simp [Builtin.firstCells, loadCells, loadCellsFrom]
    | ro u hX hb hl hd hu hR =>
      rename_i b o cap
      refine ⟨l, _, hK, by simp [Builtin.lenOf], fun w' hw => run_firstCells (w := w') u fun q hq => by rw [cell_of_heap (w := w) (by rw [hw])]; exact hu q hq, hd, by simp, fun i j c s' hi hj => ?_⟩
      have hc := hd c (List.mem_of_getElem? hi)
      have hj' := (List.getElem?_eq_some_iff.1 hj).1
      have hi' := (List.getElem?_eq_some_iff.1 hi).1
      have hm2 : (i + 1) * e ≤ l.length * e := Nat.mul_le_mul_right _ hi'
      rw [Nat.succ_mul] at hm2
      refine ⟨u (i * e + j), ?_, hR i j c s' hi hj⟩
      simp only [List.getElem?_toArray, List.getElem?_map]
      rw [List.getElem?_range (by omega)]; rfl
  · cases hx
    rename_i ad
    exact ⟨[], #[], hs, by simp [Builtin.lenOf], fun w' _ => by cases ad <;> simp [Builtin.firstCells, loadCells, loadCellsFrom], .nil⟩
  · rename_i n i len
    split at hs
    case h_2 => exact hs.elim
    rename_i k hk
    obtain ⟨rfl, hle, hK⟩ := hs
    have hlen : (takeA i len k.l).length = len := by rw [takeA_eq]; simp; omega
    cases hx with
    | slz =>
      rename_i ad
      have h0 : takeA i 0 k.l = [] := List.eq_nil_of_length_eq_zero hlen
      rw [h0] at hK
      refine ⟨[], #[], hK, by simp [Builtin.lenOf], fun w' _ => ?_, .nil⟩
      cases ad <;> simp [Builtin.firstCells, loadCells, loadCellsFrom]
    | sl hb hl hsh hc =>
      rename_i cap b o e m t
      have he := own_e hb (h.look n k hk)
      obtain ⟨u, hu, hrow⟩ := own_row h hk hle hb
      refine ⟨_, _, hK, by simp [Builtin.lenOf, hlen], fun w' hw => ?_, hrow⟩
      rw [hlen, he]
      exact run_firstCells (w := w') u fun q hq => by rw [cell_of_heap (w := w) (by rw [hw])]; exact hu q hq
  · cases hx
    exact ⟨[], #[], hs, by simp [Builtin.lenOf], fun w' _ => by simp [Builtin.firstCells], .nil⟩
  · rename_i str
    obtain ⟨rfl, hK⟩ := hs
    cases hx
    refine ⟨_, str.data.map fun b => .int .u8 b.toNat, hK, ?_, fun w' _ => ?_, ?_, ?_, ?_⟩
    · simp only [Builtin.lenOf, Sem.run_pure, List.length_map, Array.length_toList]; rfl
    · simp only [Builtin.firstCells, List.length_map, Array.length_toList, Sem.run_pure]
      congr 2
      have : str.extract 0 str.data.size = str := by
        apply ByteArray.ext
        simp [ByteArray.data_extract]
      rw [this]
    · intro c hc; simp only [List.mem_map] at hc; obtain ⟨b, _, rfl⟩ := hc; rfl
    · simp
    · intro i j c s' hi hj
      simp only [List.getElem?_map, Option.map_eq_some_iff, Array.getElem?_toList] at hi
      obtain ⟨b, hb, rfl⟩ := hi
      match j with
      | 0 => simp at hj; subst hj; exact ⟨_, by simp [hb], .v _⟩
      | j + 1 => simp at hj
  · exact hs.elim

/-- A name for an empty slice without an array. -/
theorem StR.addNil (h : StR C s β a w) (z : Nat) : StR C (pushA s ⟨z, []⟩) β a w := by
  have hX : ∀ b, XOf C.F β (pushA s ⟨z, []⟩).h b → XOf C.F β s.h b := by
    rintro b (hb | ⟨p, hp, o, e, hb⟩)
    · exact .inl hb
    · simp only [pushA, List.mem_cons] at hp
      rcases hp with rfl | hp
      · exact absurd (h.βlt _ _ hb) (Nat.lt_irrefl _)
      · exact .inr ⟨p, hp, o, e, hb⟩
  have hnone : β s.k = none := by
    cases hb : β s.k with
    | none => rfl
    | some r => exact absurd (h.βlt _ _ hb) (Nat.lt_irrefl _)
  have m : Mono (XOf C.F β s.h) β w (XOf C.F β (pushA s ⟨z, []⟩).h) β w := ⟨fun b h1 h2 => absurd (hX b h1) h2, fun _ _ h => h, Nat.le_refl _, fun _ _ _ => rfl, fun _ _ _ h => h⟩
  refine ⟨h.defers, h.size, fun i => ?_, fun p hp => ?_, fun p hp => ?_, fun n r hr => Nat.lt_succ_of_lt (h.βlt n r hr), ?_, ?_, ?_, h.fr, h.Flt, h.sv.mono m, h.yy⟩
  · exact (h.tm i).mono m
  · simp only [pushA, List.mem_cons] at hp
    rcases hp with rfl | hp
    · exact .inr ⟨rfl, hnone⟩
    · exact (h.own p hp).mono m (fun _ _ _ _ => rfl) (fun h => h)
  · simp only [pushA, List.mem_cons] at hp ⊢
    rcases hp with rfl | hp
    · exact Nat.lt_succ_self _
    · exact Nat.lt_succ_of_lt (h.lt p hp)
  · simp only [pushA, List.map_cons, List.nodup_cons]
    refine ⟨fun hm => ?_, h.nd⟩
    obtain ⟨p, hp, he⟩ := List.mem_map.1 hm
    have := h.lt p hp
    omega
  · intro p hp q hq b o e o' e' h1 h2
    simp only [pushA, List.mem_cons] at hp hq
    rcases hp with rfl | hp
    · rw [hnone] at h1; cases h1
    · rcases hq with rfl | hq
      · rw [hnone] at h2; cases h2
      · exact h.inj p hp q hq b o e o' e' h1 h2
  · intro p hp b o e hb
    simp only [pushA, List.mem_cons] at hp
    rcases hp with rfl | hp
    · rw [hnone] at hb; cases hb
    · exact h.mine p hp b o e hb

/-- The own block n is written, and goes by the next name from here on. -/
theorem StR.rename (h : StR C s β a w) {n b o o' : Nat} {k k' : Blk} {e : Nat} {c c' : Array Value} {t : TypeId} {w' : World} (hk : find s.h n = some k) (hb : β n = some (b, o, e))
    (hc : w.heap[b]? = some (.cells c t (0, 0))) (hc' : w'.heap[b]? = some (.cells c' t (0, 0))) (hsz : c'.size = c.size) (hoth : ∀ q, q ≠ b → w'.heap[q]? = w.heap[q]?)
    (hz : w'.heap.size = w.heap.size) (h1 : w'.os = w.os) (h2 : w'.tape = w.tape) (h3 : w'.output = w.output)
    (hl : ∀ ch ∈ k'.l, ch.length = k'.e) (hle : o' + k'.l.length * k'.e ≤ c'.size)
    (hR : ∀ (i j : Nat) (ch : List AV) (s' : AV), k'.l[i]? = some ch → ch[j]? = some s' → ∃ u, c'[o' + i * k'.e + j]? = some u ∧ RS (XOf C.F β s.h) β w s' u) :
    StR C (pushA { s with h := dropN [n] s.h } k') (updB β s.k (b, o', k'.e)) a w' := by
  have hmem := find_mem hk
  have hXb : XOf C.F β s.h b := .inr ⟨(n, k), hmem, o, e, hb⟩
  have hfresh : β s.k = none := by
    cases hb : β s.k with
    | none => rfl
    | some r => exact absurd (h.βlt _ _ hb) (Nat.lt_irrefl _)
  have hup : ∀ p ∈ s.h, updB β s.k (b, o', k'.e) p.1 = β p.1 := fun p hp => by
    have := h.lt p hp
    simp [updB]; omega
  have hnb : ∀ p ∈ dropN [n] s.h, ∀ o1 e1, β p.1 ≠ some (b, o1, e1) := fun p hp o1 e1 hb1 => by
    have hp' := mem_dropN.1 hp
    have := h.inj p hp'.1 (n, k) hmem b o1 e1 o e hb1 hb
    exact hp'.2 (by simp [this])
  have hshape : ∀ q t' m, w.shape? q = some (t', m) → w'.shape? q = some (t', m) := by
    intro q t' m hq
    by_cases hqb : q = b
    · subst hqb
      simp only [World.shape?, hc, hc', hsz] at hq ⊢
      exact hq
    · rw [shape_of_heap (hoth q hqb)]; exact hq
  have m : Mono (XOf C.F β s.h) β w (XOf C.F (updB β s.k (b, o', k'.e)) (pushA { s with h := dropN [n] s.h } k').h) (updB β s.k (b, o', k'.e)) w' := by
    refine ⟨?_, fun q r hr => ?_, by omega, fun q hq hX => hoth q (fun e => hX (e ▸ hXb)), hshape⟩
    · rintro q (hq | ⟨p, hp, o1, e1, hq⟩) hn
      · exact absurd (.inl hq) hn
      · simp only [pushA, List.mem_cons] at hp
        rcases hp with rfl | hp
        · simp [updB] at hq
          obtain ⟨rfl, _⟩ := hq
          exact absurd hXb hn
        · have hp' := mem_dropN.1 hp
          rw [hup p hp'.1] at hq
          exact absurd (.inr ⟨p, hp'.1, o1, e1, hq⟩) hn
    · unfold updB; split
      · rename_i hn; subst hn; rw [hfresh] at hr; cases hr
      · exact hr
  have hmine := h.mine (n, k) hmem b o e hb
  refine ⟨h.defers.keep fun D _ hD ho _ => hoth D (fun e => by subst e; rw [hc] at hD; cases hD; exact ho _ _ _ rfl), h.size, fun i => ?_, fun p hp => ?_, fun p hp => ?_, fun q r hr => ?_, ?_, ?_, ?_, ?_, h.Flt, h.sv.mono m, h.yy⟩
  · exact (h.tm i).mono m
  · simp only [pushA, List.mem_cons] at hp
    rcases hp with rfl | hp
    · exact .inl ⟨b, o', c', t, by simp [updB], hc', hl, hle, fun i j ch s' hi hj => by obtain ⟨u, hu, hr⟩ := hR i j ch s' hi hj; exact ⟨u, hu, hr.mono m⟩⟩
    · have hp' := mem_dropN.1 hp
      exact (h.own p hp'.1).mono m (fun b1 o1 e1 hb1 => hoth b1 (fun e => hnb p hp o1 e1 (e ▸ hb1))) (fun hn => by rw [hup p hp'.1]; exact hn)
  · simp only [pushA, List.mem_cons] at hp ⊢
    rcases hp with rfl | hp
    · exact Nat.lt_succ_self _
    · exact Nat.lt_succ_of_lt (h.lt p (mem_dropN.1 hp).1)
  · unfold updB at hr; simp only [pushA]
    split at hr
    · rename_i hn; subst hn; exact Nat.lt_succ_self _
    · exact Nat.lt_succ_of_lt (h.βlt _ _ hr)
  · simp only [pushA, List.map_cons, List.nodup_cons]
    refine ⟨fun hm => ?_, List.Nodup.sublist (List.Sublist.map _ List.filter_sublist) h.nd⟩
    obtain ⟨p, hp, he⟩ := List.mem_map.1 hm
    have := h.lt p (mem_dropN.1 hp).1
    omega
  · intro p hp q hq b1 o1 e1 o2 e2 hb1 hb2
    simp only [pushA, List.mem_cons] at hp hq
    rcases hp with rfl | hp <;> rcases hq with rfl | hq
    · rfl
    · rw [hup q (mem_dropN.1 hq).1] at hb2
      simp [updB] at hb1
      exact absurd (hb1.1 ▸ hb2) (hnb q hq o2 e2)
    · rw [hup p (mem_dropN.1 hp).1] at hb1
      simp [updB] at hb2
      exact absurd (hb2.1 ▸ hb1) (hnb p hp o1 e1)
    · rw [hup p (mem_dropN.1 hp).1] at hb1; rw [hup q (mem_dropN.1 hq).1] at hb2
      exact h.inj p (mem_dropN.1 hp).1 q (mem_dropN.1 hq).1 b1 o1 e1 o2 e2 hb1 hb2
  · intro p hp b1 o1 e1 hb1
    simp only [pushA, List.mem_cons] at hp
    rcases hp with rfl | hp
    · simp [updB] at hb1
      rw [← hb1.1]; exact hmine
    · rw [hup p (mem_dropN.1 hp).1] at hb1; exact h.mine p (mem_dropN.1 hp).1 b1 o1 e1 hb1
  · refine ⟨h1.trans h.fr.os, h2.trans h.fr.tape, h3.trans h.fr.output, by rw [hz]; exact h.fr.size, fun q hq hp => ?_, fun q t' m hs => hshape q t' m (h.fr.shape q t' m hs)⟩
    have hqb : q ≠ b := fun e => by
      subst e
      rcases hmine.1 with h' | h'
      · omega
      · exact hp h'
    rw [hoth q hqb]; exact h.fr.block q hq hp
end
end Go.Eng
