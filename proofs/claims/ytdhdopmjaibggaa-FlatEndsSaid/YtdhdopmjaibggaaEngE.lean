/- The engine, part E: freezing own blocks, stores and appends. -/
import Derived.Test.YtdhdopmjaibggaaEngD
set_option linter.unusedSimpArgs false
set_option linter.unusedVariables false
namespace Go.Eng
open Go Go.RowKit

/-! ### Closed values: no names in them -/
inductive Cl : AV → Prop
  | v (x : Value) : Cl (.v x)
  | unk : Cl .unk
  | ez : Cl .ez
  | ro {e : Nat} {l : List (List AV)} (h : ∀ c ∈ l, ∀ s ∈ c, Cl s) : Cl (.ro e l)
  | rp {c : List AV} {j : Nat} (h : ∀ s ∈ c, Cl s) : Cl (.rp c j)
  | fn {f : FuncId} {c : List AV} (h : ∀ s ∈ c, Cl s) : Cl (.fn f c)
  | g {c : List AV} (h : ∀ s ∈ c, Cl s) : Cl (.g c)
  | t {c : List AV} (h : ∀ s ∈ c, Cl s) : Cl (.t c)

theorem Cl_v {x : Value} : Cl (.v x) ↔ True := ⟨fun _ => trivial, fun _ => .v x⟩
theorem Cl_unk : Cl .unk ↔ True := ⟨fun _ => trivial, fun _ => .unk⟩
theorem Cl_ez : Cl .ez ↔ True := ⟨fun _ => trivial, fun _ => .ez⟩
theorem Cl_ro {e : Nat} {l : List (List AV)} : Cl (.ro e l) ↔ ∀ c ∈ l, ∀ s ∈ c, Cl s := ⟨fun h => by cases h; assumption, .ro⟩
theorem Cl_rp {c : List AV} {j : Nat} : Cl (.rp c j) ↔ ∀ s ∈ c, Cl s := ⟨fun h => by cases h; assumption, .rp⟩
theorem Cl_fn {f : FuncId} {c : List AV} : Cl (.fn f c) ↔ ∀ s ∈ c, Cl s := ⟨fun h => by cases h; assumption, .fn⟩
theorem Cl_g {c : List AV} : Cl (.g c) ↔ ∀ s ∈ c, Cl s := ⟨fun h => by cases h; assumption, .g⟩
theorem Cl_t {c : List AV} : Cl (.t c) ↔ ∀ s ∈ c, Cl s := ⟨fun h => by cases h; assumption, .t⟩
theorem Cl_ptr {n i j : Nat} : Cl (.ptr n i j) ↔ False := ⟨(fun h => by cases h), fun h => h.elim⟩
theorem Cl_sl {n i j : Nat} : Cl (.sl n i j) ↔ False := ⟨(fun h => by cases h), fun h => h.elim⟩

def B0 : Bt := fun _ => none

theorem RS.closed {X : Nat → Prop} {β : Bt} {w : World} {a : AV} {x : Value} (h : RS X β w a x) (hc : Cl a) (β' : Bt) : RS X β' w a x := by
  induction h with
  | v x => exact .v x
  | unk x => exact .unk x
  | ptr h => cases hc
  | sl h hl hs hc' => cases hc
  | slz => cases hc
  | ez => exact .ez
  | ro0 => exact .ro0
  | ro u hX hb hl hd hu _ ih =>
    cases hc with
    | ro hc => exact .ro u hX hb hl hd hu fun i j c s hi hj => ih i j c s hi hj (hc c (List.mem_of_getElem? hi) s (List.mem_of_getElem? hj))
  | rp u hX hb hu _ ih =>
    cases hc with
    | rp hc => exact .rp u hX hb hu fun k s hk => ih k s hk (hc s (List.mem_of_getElem? hk))
  | fn hl _ ih =>
    cases hc with
    | fn hc => exact .fn hl fun k s u hs hu => ih k s u hs hu (hc s (List.mem_of_getElem? hs))
  | g hl _ ih =>
    cases hc with
    | g hc => exact .g hl fun k s u hs hu => ih k s u hs hu (hc s (List.mem_of_getElem? hs))
  | t hl _ ih =>
    cases hc with
    | t hc => exact .t hl fun k s u hs hu => ih k s u hs hu (hc s (List.mem_of_getElem? hs))

/-! ### Freezing -/
/-- The names that freezing this value uses up. -/
def namesA (H : Nat → Option Blk) : Nat → AV → List Nat
  | 0, _ => []
  | d + 1, .ptr n i _ => n :: (match H n with | some k => (match k.l[i]? with | some ch => ch.flatMap (namesA H d) | none => []) | none => [])
  | _ + 1, .sl n _ _ => [n]
  | d + 1, .fn _ c => c.flatMap (namesA H d)
  | d + 1, .g c => c.flatMap (namesA H d)
  | _ + 1, _ => []

/-- A stretch of a list; the whole list where it is the whole. -/
def takeA (i len : Nat) (l : List (List AV)) : List (List AV) := if i = 0 ∧ len = l.length then l else (l.drop i).take len
theorem takeA_eq (i len : Nat) (l : List (List AV)) : takeA i len l = (l.drop i).take len := by
  unfold takeA; split
  · rename_i h; obtain ⟨rfl, rfl⟩ := h; simp
  · rfl

def frzA (H : Nat → Option Blk) : Nat → AV → AV
  | 0, _ => .unk
  | d + 1, .ptr n i j => (match H n with | some k => (match k.l[i]? with | some ch => .rp (ch.map (frzA H d)) j | none => .unk) | none => .unk)
  | _ + 1, .sl n i len => (match H n with | some k => if i + len ≤ k.l.length then .ro k.e (takeA i len k.l) else .unk | none => .unk)
  | d + 1, .fn f c => .fn f (c.map (frzA H d))
  | d + 1, .g c => .g (c.map (frzA H d))
  | _ + 1, x => x

def dropN (ns : List Nat) (h : List (Nat × Blk)) : List (Nat × Blk) := h.filter fun p => !ns.contains p.1

section
variable {C : Ctx} {s : AState} {β : Bt} {a : Act} {w : World}

theorem mem_dropN {ns : List Nat} {h : List (Nat × Blk)} {p : Nat × Blk} : p ∈ dropN ns h ↔ p ∈ h ∧ p.1 ∉ ns := by
  simp [dropN, List.mem_filter]

theorem StR.drop (h : StR C s β a w) (ns : List Nat) : StR C { s with h := dropN ns s.h } β a w := by
  have hX : ∀ b, XOf C.F β (dropN ns s.h) b → XOf C.F β s.h b := fun b hb => by
    rcases hb with hb | ⟨p, hp, r⟩
    · exact .inl hb
    · exact .inr ⟨p, (mem_dropN.1 hp).1, r⟩
  have m : Mono (XOf C.F β s.h) β w (XOf C.F β (dropN ns s.h)) β w := ⟨fun b h1 h2 => absurd (hX b h1) h2, fun _ _ h => h, Nat.le_refl _, fun _ _ _ => rfl, fun _ _ _ h => h⟩
  refine ⟨h.defers, h.size, fun i => ?_, fun p hp => (h.own p (mem_dropN.1 hp).1).mono m (fun _ _ _ _ => rfl) (fun h => h), fun p hp => h.lt p (mem_dropN.1 hp).1, h.βlt, ?_,
    fun p hp q hq => h.inj p (mem_dropN.1 hp).1 q (mem_dropN.1 hq).1, fun p hp => h.mine p (mem_dropN.1 hp).1, h.fr, h.Flt, h.sv.mono m, h.yy⟩
  · exact (h.tm i).mono m
  · exact List.Nodup.sublist (List.Sublist.map _ List.filter_sublist) h.nd

theorem frzA_sound (h : StR C s β a w) (ns : List Nat) : ∀ (d : Nat) (x : AV) (u : Value), RS (XOf C.F β s.h) β w x u → (∀ n ∈ namesA (find s.h) d x, n ∈ ns) →
    RS (XOf C.F β (dropN ns s.h)) β w (frzA (find s.h) d x) u := by
  have hX : ∀ b, XOf C.F β (dropN ns s.h) b → XOf C.F β s.h b := fun b hb => by
    rcases hb with hb | ⟨p, hp, r⟩
    · exact .inl hb
    · exact .inr ⟨p, (mem_dropN.1 hp).1, r⟩
  have hout : ∀ n k b o e, find s.h n = some k → β n = some (b, o, e) → n ∈ ns → ¬ XOf C.F β (dropN ns s.h) b := by
    intro n k b o e hk hb hn hx
    rcases hx with hx | ⟨p, hp, o', e', hb'⟩
    · exact (h.mine _ (find_mem hk) b o e hb).2 hx
    · have := h.inj p (mem_dropN.1 hp).1 (n, k) (find_mem hk) b o' e' o e hb' hb
      exact (mem_dropN.1 hp).2 (this ▸ hn)
  intro d
  induction d with
  | zero => intro x u _ _; exact .unk _
  | succ d ih =>
    intro x u hx hns
    cases x with
    | ptr n i j =>
      simp only [frzA]
      cases hk : find s.h n with
      | none => exact .unk _
      | some k =>
        simp only
        cases hi : k.l[i]? with
        | none => exact .unk _
        | some ch =>
          simp only
          cases hx with
          | ptr hb =>
            rename_i b o e
            have hown := h.look n k hk
            rcases hown with ⟨b', o', c, t, h1, h2, h3, h4, h5⟩ | ⟨h1, h2⟩
            · rw [h1] at hb; cases hb
              have hch : ch.length = k.e := h3 ch (List.mem_of_getElem? hi)
              have hil : i < k.l.length := (List.getElem?_eq_some_iff.1 hi).1
              have hle : (i + 1) * k.e ≤ k.l.length * k.e := Nat.mul_le_mul_right _ hil
              rw [Nat.succ_mul] at hle
              have hnn : n ∈ ns := hns n (by simp [namesA])
              refine .rp (o := o + i * k.e) (fun q => c.getD (o + i * k.e + q) undef) (hout n k b o k.e hk h1 hnn) ⟨_, _, _, h2⟩ (fun q hq => ?_) (fun q s' hs => ?_)
              · have hlt : o + i * k.e + q < c.size := by simp at hq; omega
                simp [World.cell?, h2, hlt]
              · simp only [List.getElem?_map, Option.map_eq_some_iff] at hs
                obtain ⟨y, hy, rfl⟩ := hs
                obtain ⟨v, hv, hr⟩ := h5 i q ch y hi hy
                have : c.getD (o + i * k.e + q) undef = v := by
                  have hlt := (Array.getElem?_eq_some_iff.1 hv).1
                  simpa [Array.getD, hlt] using (Array.getElem?_eq_some_iff.1 hv).2
                rw [this]
                refine ih y v hr fun m hm => hns m ?_
                simp only [namesA, hk, hi, List.mem_cons, List.mem_flatMap]
                exact .inr ⟨y, List.mem_of_getElem? hy, hm⟩
            · rw [h1] at hi; simp at hi
    | sl n i len =>
      simp only [frzA, takeA_eq]
      cases hk : find s.h n with
      | none => exact .unk _
      | some k =>
        simp only
        split
        case isFalse => exact .unk _
        rename_i hle
        have hnn : n ∈ ns := hns n (by simp [namesA])
        have hlen : ((k.l.drop i).take len).length = len := by simp; omega
        cases hx with
        | slz => simp only [List.take_zero]; exact .ro0
        | sl hb hl hs hc =>
          rename_i cap b o e m t
          have hown := h.look n k hk
          rcases hown with ⟨b', o', c, t', h1, h2, h3, h4, h5⟩ | ⟨h1, h2⟩
          · rw [h1] at hb; cases hb
            conv => rhs; rw [← hlen]
            have hmul : (i + len) * k.e ≤ k.l.length * k.e := Nat.mul_le_mul_right _ hle
            rw [Nat.add_mul] at hmul
            refine .ro (fun q => c.getD (o + i * k.e + q) undef) (hout n k b o k.e hk h1 hnn) ⟨_, _, _, h2⟩ (by omega) (fun ch hch => h3 ch (List.mem_of_mem_drop (List.mem_of_mem_take hch))) (fun q hq => ?_) (fun i' j ch s' hi hj => ?_)
            · have hlt : o + i * k.e + q < c.size := by rw [hlen] at hq; omega
              simp [World.cell?, h2, hlt]
            · rw [List.getElem?_take] at hi
              split at hi
              case isFalse => cases hi
              rw [List.getElem?_drop] at hi
              obtain ⟨v, hv, hr⟩ := h5 (i + i') j ch s' hi hj
              rw [Nat.add_mul] at hv
              have he : o + (i * k.e + i' * k.e) + j = o + i * k.e + (i' * k.e + j) := by omega
              rw [he] at hv
              have : c.getD (o + i * k.e + (i' * k.e + j)) undef = v := by
                have hlt := (Array.getElem?_eq_some_iff.1 hv).1
                simpa [Array.getD, hlt] using (Array.getElem?_eq_some_iff.1 hv).2
              rw [this]
              exact hr.anti hX
          · rw [hb] at h2; cases h2
    | fn f c =>
      simp only [frzA]
      cases hx with
      | fn hl hR =>
        refine .fn (by simpa using hl) fun k s' u hs hu => ?_
        simp only [List.getElem?_map, Option.map_eq_some_iff] at hs
        obtain ⟨y, hy, rfl⟩ := hs
        refine ih y u (hR k y u hy hu) fun m hm => hns m ?_
        simp only [namesA, List.mem_flatMap]
        exact ⟨y, List.mem_of_getElem? hy, hm⟩
    | g c =>
      simp only [frzA]
      cases hx with
      | g hl hR =>
        refine .g (by simpa using hl) fun k s' u hs hu => ?_
        simp only [List.getElem?_map, Option.map_eq_some_iff] at hs
        obtain ⟨y, hy, rfl⟩ := hs
        refine ih y u (hR k y u hy hu) fun m hm => hns m ?_
        simp only [namesA, List.mem_flatMap]
        exact ⟨y, List.mem_of_getElem? hy, hm⟩
    | v y => exact hx.anti hX
    | rp c j => exact hx.anti hX
    | ro e l => exact hx.anti hX
    | t l => exact hx.anti hX
    | ez => exact hx.anti hX
    | unk => exact .unk _
end
end Go.Eng
