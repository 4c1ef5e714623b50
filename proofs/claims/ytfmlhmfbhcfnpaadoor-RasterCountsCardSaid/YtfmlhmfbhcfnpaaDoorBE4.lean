/- The engine of these proofs, part 4: how a function's text is run over abstract values, and why that is right. Conditions: none (a library text). -/
import Derived.Test.YtfmlhmfbhcfnpaaDoorBE3
import Derived.Laws.StructEq
set_option linter.unusedSimpArgs false
set_option linter.unusedVariables false
namespace Go.Eng
open Go Go.RowKit

section
variable (P : Program) (A : List (List Nat × List Nat)) (all : Array Oper) (s0 : AState) (F : AState → Prop) (r : List Oper) (i : Nat) (s : AState)
def onQ (d : Option Nat) (av : AV) : Prop := force (putA s d av) fun s' => vcQ P A all s0 F r (i + 1) s'
theorem onQ_eq (d : Option Nat) (av : AV) : onQ P A all s0 F r i s d av = force (putA s d av) fun s' => force (i + 1) fun j => vcQ P A all s0 F r j s' := rfl
def onQB (d : Option Nat) (av : AV) (b : Blk) : Prop := force (addB s (s0.k + i) (some b)) fun s' => onQ P A all s0 F r i s' d av
theorem DrawK_eq (rec : List It → (AState → Prop) → AState → Prop) (l : List Oper) (ops : Array Oper) (k : List It) (Q : AState → Prop) (n kk : Nat) (t : Nat → AV) (h : List (Nat × Blk)) (x : Aux) : DrawK rec l ops k Q ⟨n, t, h, kk, x⟩ = rec (.o l ops :: k) Q ⟨n, t, h, kk, x⟩ := rfl
theorem idR_eq (k : List It) (Q : AState → Prop) (s : AState) : idR k Q s = Q s := rfl
theorem vcQ_nil : vcQ P A all s0 F [] i s = F s := rfl
/-- One operation of it. -/
def oneQ (o : Oper) : Prop := qopK P (evA s.t) (maskH s0 s A i) o (s0.k + i) fun av nb => vcQ P A all s0 F r (i + 1) (putA (addB s (s0.k + i) nb) o.dst av)
variable (d : Option Nat) (ty : TypeId) (pos : String) (af : Array Edge) (g : Option (Nat × Bool))
theorem vcQ_cons (op : Op) : vcQ P A all s0 F (⟨d, op, ty, pos, af, none⟩ :: r) i s = oneQ P A all s0 F r i s ⟨d, op, ty, pos, af, none⟩ := rfl
theorem maskH_eq (k : Nat) : maskH s0 s A i k = if (A.getD i ([], [])).2.contains k then none else if k < s0.k then find s0.h k else if (A.getD i ([], [])).1.contains (k - s0.k) then find s.h k else none := rfl

theorem Q_move (x : Operand) : oneQ P A all s0 F r i s ⟨d, .move x, ty, pos, af, g⟩ = qev P (evA s.t) (maskH s0 s A i) (.move x) (onQ P A all s0 F r i s d) := rfl
theorem Q_assign (x : Operand) : oneQ P A all s0 F r i s ⟨d, .assign x, ty, pos, af, g⟩ = qev P (evA s.t) (maskH s0 s A i) (.assign x) (onQ P A all s0 F r i s d) := rfl
theorem Q_load (t : TypeId) (x : Operand) : oneQ P A all s0 F r i s ⟨d, .load t x, ty, pos, af, g⟩ = qev P (evA s.t) (maskH s0 s A i) (.load t x) (onQ P A all s0 F r i s d) := rfl
theorem Q_fieldAddr (t : TypeId) (x : Operand) (f : Nat) : oneQ P A all s0 F r i s ⟨d, .fieldAddr t x f, ty, pos, af, g⟩ = qev P (evA s.t) (maskH s0 s A i) (.fieldAddr t x f) (onQ P A all s0 F r i s d) := rfl
theorem Q_indexAddr (t : TypeId) (x y : Operand) : oneQ P A all s0 F r i s ⟨d, .indexAddr t x y, ty, pos, af, g⟩ = qev P (evA s.t) (maskH s0 s A i) (.indexAddr t x y) (onQ P A all s0 F r i s d) := rfl
theorem Q_index (t : TypeId) (x y : Operand) : oneQ P A all s0 F r i s ⟨d, .index t x y, ty, pos, af, g⟩ = qev P (evA s.t) (maskH s0 s A i) (.index t x y) (onQ P A all s0 F r i s d) := rfl
theorem Q_binOp (o : BinOp) (t : TypeId) (x y : Operand) (u : TypeId) : oneQ P A all s0 F r i s ⟨d, .binOp o t x y u, ty, pos, af, g⟩ = qev P (evA s.t) (maskH s0 s A i) (.binOp o t x y u) (onQ P A all s0 F r i s d) := rfl
theorem Q_nilCheck (x : Operand) : oneQ P A all s0 F r i s ⟨d, .nilCheck x, ty, pos, af, g⟩ = qev P (evA s.t) (maskH s0 s A i) (.nilCheck x) (onQ P A all s0 F r i s d) := rfl
theorem Q_slice (t : TypeId) (x : Operand) (lo hi mx : Option Operand) : oneQ P A all s0 F r i s ⟨d, .slice t x lo hi mx, ty, pos, af, g⟩ = qev P (evA s.t) (maskH s0 s A i) (.slice t x lo hi mx) (onQ P A all s0 F r i s d) := rfl
theorem Q_build (t : TypeId) (x : Array (Nat × Operand)) : oneQ P A all s0 F r i s ⟨d, .build t x, ty, pos, af, g⟩ = qev P (evA s.t) (maskH s0 s A i) (.build t x) (onQ P A all s0 F r i s d) := rfl
theorem Q_len (xs : Array Operand) (ts : Array TypeId) : oneQ P A all s0 F r i s ⟨d, .call ⟨.builtin .len, xs, ts⟩, ty, pos, af, g⟩ = qev P (evA s.t) (maskH s0 s A i) (.call ⟨.builtin .len, xs, ts⟩) (onQ P A all s0 F r i s d) := rfl
theorem Q_usd (xs : Array Operand) (ts : Array TypeId) : oneQ P A all s0 F r i s ⟨d, .call ⟨.builtin .unsafeSliceData, xs, ts⟩, ty, pos, af, g⟩ = qev P (evA s.t) (maskH s0 s A i) (.call ⟨.builtin .unsafeSliceData, xs, ts⟩) (onQ P A all s0 F r i s d) := rfl
theorem Q_min (xs : Array Operand) (ts : Array TypeId) : oneQ P A all s0 F r i s ⟨d, .call ⟨.builtin .min, xs, ts⟩, ty, pos, af, g⟩ = qev P (evA s.t) (maskH s0 s A i) (.call ⟨.builtin .min, xs, ts⟩) (onQ P A all s0 F r i s d) := rfl
/-- On behind an append to what is empty. -/
def onQA (z : Nat) (l : List (List AV)) : Prop := force (s0.k + i) fun n => force l.length fun m => onQB P A all s0 F r i s d (.sl n 0 m) ⟨z, l⟩
/-- A call in a drawn region. -/
def QFn (f : FuncId) (as : List AV) (K : AV → Prop) (KB : Nat → List (List AV) → Prop) [Tg K] [Tg KB] : Prop := (∃ R, ((∀ a ∈ as, Cl a) ∧ PFun P f as R) ∧ K R) ∨ (∃ z l, ((∀ a ∈ as, Cl a) ∧ NFun P f as z l) ∧ KB z l)
theorem Q_call (f : Operand) (xs : Array Operand) (ts : Array TypeId) : oneQ P A all s0 F r i s ⟨d, .call ⟨.value f, xs, ts⟩, ty, pos, af, g⟩ =
    fnK (evA s.t f) fun f caps => force (xs.toList.map (evA s.t) ++ caps) fun as => QFn P f as (onQ P A all s0 F r i s d) (onQA P A all s0 F r i s d) := by
  simp only [oneQ, qopK, fnK, force, QFn, onQ, onQA, onQB, addB]
  all_goals (cases evA s.t f <;> rfl)
theorem QFn.use {f : FuncId} {as : List AV} {K : AV → Prop} {KB : Nat → List (List AV) → Prop} {R : AV} (hfun : PFun P f as R) (hcl : ∀ a ∈ as, Cl a) (hk : K R) : QFn P f as K KB := .inl ⟨R, ⟨hcl, hfun⟩, hk⟩
end

inductive Ren (σ : Nat → Nat) (ns : List Nat) : AV → AV → Prop
  | cl {a : AV} (h : Cl a) : Ren σ ns a a
  | unk {a : AV} : Ren σ ns a .unk
  | ptr {n i j : Nat} (h : n ∈ ns) : Ren σ ns (.ptr (σ n) i j) (.ptr n i j)
  | sl {n i j : Nat} (h : n ∈ ns) : Ren σ ns (.sl (σ n) i j) (.sl n i j)
  | tb {n : Nat} {T : TypeId} (h : n ∈ ns) : Ren σ ns (.tb (σ n) T) (.tb n T)
  | g {l l' : List AV} (hl : l.length = l'.length) (h : ∀ (k : Nat) (a b : AV), l[k]? = some a → l'[k]? = some b → Ren σ ns a b) : Ren σ ns (.g l) (.g l')
  | fn {f : Nat} {l l' : List AV} (hl : l.length = l'.length) (h : ∀ (k : Nat) (a b : AV), l[k]? = some a → l'[k]? = some b → Ren σ ns a b) : Ren σ ns (.fn f l) (.fn f l')
  | nil {n i : Nat} {a : Option Addr} : Ren σ ns (.v (.slice a 0 0)) (.sl n i 0)

theorem RS.ren {X X' : Nat → Prop} {β β' : Bt} {w : World} {σ : Nat → Nat} {ns : List Nat} (hX : ∀ b, X' b → X b) (hβ : ∀ n ∈ ns, β' n = β (σ n)) {a a' : AV} (h : Ren σ ns a a') : ∀ {u : Value}, RS X β w a u → RS X' β' w a' u := by
  induction h with
  | cl h => intro u hr; exact (hr.anti hX).closed h β'
  | unk => intro u _; exact .unk _
  | nil => intro u hr; cases hr; exact .slz
  | tb h =>
    intro u hr
    cases hr with
    | tb hb hs => exact .tb (by rw [hβ _ h]; exact hb) hs
  | ptr h =>
    intro u hr
    cases hr with
    | ptr hb => exact .ptr (by rw [hβ _ h]; exact hb)
  | sl h =>
    intro u hr
    cases hr with
    | sl hb hl hs hc => exact .sl (by rw [hβ _ h]; exact hb) hl hs hc
    | slz => exact .slz
  | g hl _ ih =>
    intro u hr
    cases hr with
    | g hl' hR =>
      refine .g (by omega) fun k s u hs hu => ?_
      have hk := (List.getElem?_eq_some_iff.1 hs).1
      exact ih k _ s (List.getElem?_eq_getElem (by omega)) hs (hR k _ u (List.getElem?_eq_getElem (by omega)) hu)
  | fn hl _ ih =>
    intro u hr
    cases hr with
    | fn hl' hR =>
      refine .fn (by omega) fun k s u hs hu => ?_
      have hk := (List.getElem?_eq_some_iff.1 hs).1
      exact ih k _ s (List.getElem?_eq_getElem (by omega)) hs (hR k _ u (List.getElem?_eq_getElem (by omega)) hu)

/-- The contents of a block, renamed. -/
def RenL (σ : Nat → Nat) (ns : List Nat) (l l' : List (List AV)) : Prop :=
  (l = l' ∧ ∀ c ∈ l, ∀ s ∈ c, Cl s) ∨
  (l.length = l'.length ∧ ∀ (i : Nat) (c c' : List AV), l[i]? = some c → l'[i]? = some c' → c.length = c'.length ∧ ∀ (j : Nat) (a b : AV), c[j]? = some a → c'[j]? = some b → Ren σ ns a b)

/-- The saved slots, renamed. -/
def RenS (σ : Nat → Nat) (ns : List Nat) (l l' : List (Nat → AV)) : Prop :=
  l.length = l'.length ∧ ∀ (j : Nat) (f f' : Nat → AV), l[j]? = some f → l'[j]? = some f' → ∀ i, Ren σ ns (f i) (f' i)

theorem Le.intro {n k k' : Nat} {t t' : Nat → AV} {h h' : List (Nat × Blk)} {sv sv' : List (Nat → AV)} {y : Option Yl} (σ : Nat → Nat) (ht : ∀ i, Ren σ (h'.map (·.1)) (t i) (t' i))
    (hh : ∀ p ∈ h', (∃ b, find h (σ p.1) = some b ∧ b.e = p.2.e ∧ RenL σ (h'.map (·.1)) b.l p.2.l) ∨ (p.2.l = [] ∧ k ≤ σ p.1)) (hlt : ∀ p ∈ h', p.1 < k') (hnd : (h'.map fun p => σ p.1).Nodup)
    (hsv : RenS σ (h'.map (·.1)) sv sv') : Le ⟨n, t, h, k, ⟨sv, y⟩⟩ ⟨n, t', h', k', ⟨sv', y⟩⟩ := by
  rintro C a w ⟨β, hs⟩
  refine ⟨fun q => if q ∈ h'.map (·.1) then β (σ q) else none, ?_⟩
  have hnone : ∀ n, k ≤ n → β n = none := fun n hn => by
    cases hb : β n with
    | none => rfl
    | some r => exact absurd (hs.βlt n r hb) (by simp only; omega)
  have hσ : ∀ p ∈ h', (∃ q ∈ h, q.1 = σ p.1) ∨ β (σ p.1) = none := fun p hp => by
    rcases hh p hp with ⟨b, hb, _⟩ | ⟨_, hk⟩
    · exact .inl ⟨_, find_mem hb, rfl⟩
    · exact .inr (hnone _ hk)
  have hβ : ∀ q ∈ h'.map (·.1), (fun q => if q ∈ h'.map (·.1) then β (σ q) else none) q = β (σ q) := fun q hq => by simp only; rw [if_pos hq]
  have hX : ∀ b, XOf C.F (fun q => if q ∈ h'.map (·.1) then β (σ q) else none) h' b → XOf C.F β h b := by
    rintro b (hb | ⟨p, hp, o, e, hb⟩)
    · exact .inl hb
    · rw [hβ _ (List.mem_map_of_mem hp)] at hb
      rcases hσ p hp with ⟨q, hq, hqe⟩ | hn
      · exact .inr ⟨q, hq, o, e, by rw [hqe]; exact hb⟩
      · rw [hn] at hb; cases hb
  have hnd' : (h'.map (·.1)).Nodup := by
    have : (h'.map fun p => σ p.1) = (h'.map (·.1)).map σ := by rw [List.map_map]; rfl
    rw [this] at hnd
    clear this hσ hβ hX hh ht hlt
    generalize h'.map (·.1) = l at hnd
    induction l with
    | nil => exact List.nodup_nil
    | cons x l ih =>
      simp only [List.map_cons, List.nodup_cons] at hnd ⊢
      exact ⟨fun hx => hnd.1 (List.mem_map_of_mem hx), ih hnd.2⟩
  have hinj : ∀ p ∈ h', ∀ q ∈ h', σ p.1 = σ q.1 → p.1 = q.1 := by
    clear hσ hβ hX hh ht hlt hnd' hsv
    induction h' with
    | nil => intro p hp; simp at hp
    | cons x l ih =>
      simp only [List.map_cons, List.nodup_cons] at hnd
      intro p hp q hq he
      rcases List.mem_cons.1 hp with hp1 | hp1 <;> rcases List.mem_cons.1 hq with hq1 | hq1
      · rw [hp1, hq1]
      · refine absurd ?_ hnd.1
        have := List.mem_map_of_mem (f := fun p : Nat × Blk => σ p.1) hq1
        rw [← hp1]; rw [he]; exact this
      · refine absurd ?_ hnd.1
        have := List.mem_map_of_mem (f := fun p : Nat × Blk => σ p.1) hp1
        rw [← hq1]; rw [← he]; exact this
      · exact ih hnd.2 p hp1 q hq1 he
  refine ⟨hs.defers, hs.size, fun i => (hs.tm i).ren hX hβ (ht i), fun p hp => ?_, hlt, fun q r hr => ?_, hnd', fun p hp q hq b o e o' e' h1 h2 => ?_, fun p hp b o e hb => ?_, hs.fr, hs.Flt, ⟨hsv.1.symm.trans hs.sv.1, fun j f' g hf' hg i => ?_⟩, hs.yy⟩
  · have hbp := hβ _ (List.mem_map_of_mem hp)
    rcases hh p hp with ⟨b, hb, he, hl⟩ | ⟨hl, hk⟩
    case inr => exact .inr ⟨hl, by rw [hbp]; exact hnone _ hk⟩
    rcases hs.look (σ p.1) b hb with ⟨bb, o, c, ty, h1, h2, h3, h4, h5⟩ | ⟨h1, h2⟩
    · refine .inl ⟨bb, o, c, ty, by rw [hbp, ← he]; exact h1, h2, ?_, ?_, ?_⟩
      · intro ch hch
        rcases hl with ⟨hl, _⟩ | ⟨hl, hl2⟩
        · rw [← he]; exact h3 ch (hl ▸ hch)
        · obtain ⟨i, hi⟩ := List.getElem?_of_mem hch
          have hil : i < b.l.length := by have := (List.getElem?_eq_some_iff.1 hi).1; omega
          have := (hl2 i _ ch (List.getElem?_eq_getElem hil) hi).1
          rw [← he, ← this]; exact h3 _ (List.getElem_mem hil)
      · rcases hl with ⟨hl, _⟩ | ⟨hl, _⟩
        · rw [← he, ← hl]; exact h4
        · rw [← he, ← hl]; exact h4
      · intro i j ch s' hi hj
        rcases hl with ⟨hl, hcl⟩ | ⟨hl, hl2⟩
        · obtain ⟨u, hu, hr⟩ := h5 i j ch s' (hl ▸ hi) hj
          refine ⟨u, by rw [← he]; exact hu, (hr.anti hX).closed ?_ _⟩
          exact hcl ch (hl ▸ List.mem_of_getElem? hi) s' (List.mem_of_getElem? hj)
        · have hil : i < b.l.length := by have := (List.getElem?_eq_some_iff.1 hi).1; omega
          have h6 := hl2 i _ ch (List.getElem?_eq_getElem hil) hi
          have hjl : j < b.l[i].length := by have := (List.getElem?_eq_some_iff.1 hj).1; omega
          obtain ⟨u, hu, hr⟩ := h5 i j _ _ (List.getElem?_eq_getElem hil) (List.getElem?_eq_getElem hjl)
          exact ⟨u, by rw [← he]; exact hu, hr.ren hX hβ (h6.2 j _ s' (List.getElem?_eq_getElem hjl) hj)⟩
    · refine .inr ⟨?_, by rw [hbp]; exact h2⟩
      rcases hl with ⟨hl, _⟩ | ⟨hl, _⟩
      · rw [← hl]; exact h1
      · rw [h1] at hl; exact List.eq_nil_of_length_eq_zero hl.symm
  · split at hr
    · rename_i hq
      obtain ⟨p, hp, rfl⟩ := List.mem_map.1 hq
      exact hlt p hp
    · cases hr
  · rw [if_pos (List.mem_map_of_mem hp)] at h1
    rw [if_pos (List.mem_map_of_mem hq)] at h2
    rcases hσ p hp with ⟨p', hp', hpe⟩ | hn
    case inr => rw [hn] at h1; cases h1
    rcases hσ q hq with ⟨q', hq', hqe⟩ | hn
    case inr => rw [hn] at h2; cases h2
    refine hinj p hp q hq ?_
    rw [← hpe, ← hqe]
    exact hs.inj p' hp' q' hq' b o e o' e' (by rw [hpe]; exact h1) (by rw [hqe]; exact h2)
  · rw [if_pos (List.mem_map_of_mem hp)] at hb
    rcases hσ p hp with ⟨p', hp', hpe⟩ | hn
    case inr => rw [hn] at hb; cases hb
    exact hs.mine p' hp' b o e (by rw [hpe]; exact hb)
  · have hj : j < sv.length := by rw [hsv.1]; exact (List.getElem?_eq_some_iff.1 hf').1
    exact (hs.sv.2 j _ g (List.getElem?_eq_getElem hj) hg i).ren hX hβ (hsv.2 j _ f' (List.getElem?_eq_getElem hj) hf' i)

/-- Which name stands for which. -/
def sg : List (Nat × Nat) → Nat → Nat
  | [], n => n
  | (a, b) :: r, n => if n = a then b else sg r n
theorem sg_nil (n : Nat) : sg [] n = n := rfl
theorem sg_cons (a b n : Nat) (r : List (Nat × Nat)) : sg ((a, b) :: r) n = if n = a then b else sg r n := rfl

def RenLs (σ : Nat → Nat) (ns : List Nat) : List (Nat → AV) → List (List (Nat × AV)) → Prop
  | [], [] => True
  | f :: r, L :: Ls => (∀ p ∈ L, Ren σ ns (f p.1) p.2) ∧ RenLs σ ns r Ls
  | _, _ => False

theorem ren_tl {σ : Nat → Nat} {ns : List Nat} {t : Nat → AV} : ∀ {L : List (Nat × AV)}, (∀ p ∈ L, Ren σ ns (t p.1) p.2) → ∀ i, Ren σ ns (t i) (Eng.tl L i)
  | [], _, _ => .unk
  | (d, x) :: L, h, i => by
    simp only [Eng.tl]
    split
    · rename_i e; subst e; exact h (i, x) List.mem_cons_self
    · exact ren_tl (fun q hq => h q (List.mem_cons_of_mem _ hq)) i

theorem renLs {σ : Nat → Nat} {ns : List Nat} : ∀ {sv : List (Nat → AV)} {Ls : List (List (Nat × AV))}, RenLs σ ns sv Ls → RenS σ ns sv (Ls.map Eng.tl)
  | [], [], _ => ⟨rfl, fun j f f' hf => by simp at hf⟩
  | f :: r, L :: Ls, h => by
    obtain ⟨h1, h2⟩ := renLs h.2
    refine ⟨by simp at h1 ⊢; exact h1, fun j g g' hg hg' i => ?_⟩
    match j with
    | 0 => simp at hg hg'; subst hg; subst hg'; exact ren_tl h.1 i
    | j + 1 => simp at hg hg'; obtain ⟨L', hL', rfl⟩ := hg'; exact h2 j g _ hg (by simp [hL']) i
  | _ :: _, [], h => h.elim
  | [], _ :: _, h => h.elim

/-- Down to the slots that are named. -/
theorem Le.tl {n k k' : Nat} {t : Nat → AV} {L : List (Nat × AV)} {h h' : List (Nat × Blk)} {sv : List (Nat → AV)} {Ls : List (List (Nat × AV))} {y : Option Yl} (r : List (Nat × Nat)) (ht : ∀ p ∈ L, Ren (sg r) (h'.map (·.1)) (t p.1) p.2)
    (hh : ∀ p ∈ h', ∃ b, find h (sg r p.1) = some b ∧ b.e = p.2.e ∧ RenL (sg r) (h'.map (·.1)) b.l p.2.l) (hlt : ∀ p ∈ h', p.1 < k') (hnd : (h'.map fun p => sg r p.1).Nodup) (hsv : RenLs (sg r) (h'.map (·.1)) sv Ls) :
    Le ⟨n, t, h, k, ⟨sv, y⟩⟩ ⟨n, Eng.tl L, h', k', ⟨Ls.map Eng.tl, y⟩⟩ :=
  Le.intro (sg r) (ren_tl ht) (fun p hp => .inl (hh p hp)) hlt hnd (renLs hsv)
/-- The same, where blocks that are still empty may be new. -/
theorem Le.tl0 {n k k' : Nat} {t : Nat → AV} {L : List (Nat × AV)} {h h' : List (Nat × Blk)} {sv : List (Nat → AV)} {Ls : List (List (Nat × AV))} {y : Option Yl} (r : List (Nat × Nat)) (ht : ∀ p ∈ L, Ren (sg r) (h'.map (·.1)) (t p.1) p.2)
    (hh : ∀ p ∈ h', (∃ b, find h (sg r p.1) = some b ∧ b.e = p.2.e ∧ RenL (sg r) (h'.map (·.1)) b.l p.2.l) ∨ (p.2.l = [] ∧ k ≤ sg r p.1)) (hlt : ∀ p ∈ h', p.1 < k') (hnd : (h'.map fun p => sg r p.1).Nodup) (hsv : RenLs (sg r) (h'.map (·.1)) sv Ls) :
    Le ⟨n, t, h, k, ⟨sv, y⟩⟩ ⟨n, Eng.tl L, h', k', ⟨Ls.map Eng.tl, y⟩⟩ :=
  Le.intro (sg r) (ren_tl ht) hh hlt hnd (renLs hsv)

section
variable {σ : Nat → Nat} {ns : List Nat}
theorem ren_v {x y : Value} : Ren σ ns (.v x) (.v y) ↔ x = y := ⟨(fun h => by cases h; rfl), fun h => h ▸ .cl (.v x)⟩
theorem ren_nil {n i : Nat} {a : Option Addr} : Ren σ ns (.v (.slice a 0 0)) (.sl n i 0) ↔ True := ⟨fun _ => trivial, fun _ => .nil⟩
theorem ren_ptr {m n i j i' j' : Nat} : Ren σ ns (.ptr m i j) (.ptr n i' j') ↔ m = σ n ∧ i = i' ∧ j = j' ∧ n ∈ ns := by
  constructor
  · intro h
    cases h with
    | cl h => cases h
    | ptr h => exact ⟨rfl, rfl, rfl, h⟩
  · rintro ⟨rfl, rfl, rfl, h⟩; exact .ptr h
theorem ren_sl {m n i j i' j' : Nat} : Ren σ ns (.sl m i j) (.sl n i' j') ↔ m = σ n ∧ i = i' ∧ j = j' ∧ n ∈ ns := by
  constructor
  · intro h
    cases h with
    | cl h => cases h
    | sl h => exact ⟨rfl, rfl, rfl, h⟩
  · rintro ⟨rfl, rfl, rfl, h⟩; exact .sl h
theorem ren_ro {e e' : Nat} {l l' : List (List AV)} : Ren σ ns (.ro e l) (.ro e' l') ↔ e = e' ∧ l = l' ∧ ∀ c ∈ l, ∀ s ∈ c, Cl s := by
  constructor
  · intro h
    cases h with
    | cl h => exact ⟨rfl, rfl, Cl_ro.1 h⟩
  · rintro ⟨rfl, rfl, h⟩; exact .cl (.ro h)
theorem ren_rp {j j' : Nat} {l l' : List AV} : Ren σ ns (.rp l j) (.rp l' j') ↔ j = j' ∧ l = l' ∧ ∀ s ∈ l, Cl s := by
  constructor
  · intro h
    cases h with
    | cl h => exact ⟨rfl, rfl, Cl_rp.1 h⟩
  · rintro ⟨rfl, rfl, h⟩; exact .cl (.rp h)
theorem renL_cl {l l' : List (List AV)} (h : l = l') (hc : ∀ c ∈ l, ∀ s ∈ c, Cl s) : RenL σ ns l l' := .inl ⟨h, hc⟩
end
end Go.Eng

set_option linter.unusedSimpArgs false
set_option linter.unusedVariables false
namespace Go.Eng
open Go Go.RowKit

def RSs (X : Nat → Prop) (β : Bt) (w : World) (as : List AV) (vs : Array Value) : Prop :=
  as.length = vs.size ∧ ∀ (k : Nat) (s : AV) (u : Value), as[k]? = some s → vs[k]? = some u → RS X β w s u

/-- It stands while only blocks of O turn. -/
def Stab (J : Nat → (Nat → Prop) → (Nat → Prop) → World → Prop) : Prop :=
  ∀ i X O w O' w', J i X O w → Fr O w w' → (∀ b, O' b → (O b ∨ w.heap.size ≤ b) ∧ b < w'.heap.size) → J i X O' w'

/-- **An iterator's contract**: it yields these, one after the other, and stops where yield says no. -/
def ISeq (P : Program) (f : FuncId) (args : List AV) (xs : List (List AV)) : Prop :=
  (∃ fn, P.funcs[f]? = some fn ∧ (fn.name == "runtime.NumGoroutine") = false ∧ fn.body.isSome = true) ∧
  ∀ (l : Nat) (J Jx : Nat → (Nat → Prop) → (Nat → Prop) → World → Prop), Stab J → Stab Jx → (∀ i X O w, J i X O w → ∀ b, X b → b < w.heap.size) →
    (∀ i X O w as vs, J i X O w → xs[i]? = some as → RSs (fun b => X b ∨ O b) B0 w as vs →
      YieldAt Fence.wide 0 P l vs w fun e w' => ∃ b X', e = .returned (.bool b) ∧ (if b then J (i + 1) X' O w' else Jx i X' O w') ∧ (∀ b, X' b → X b ∨ w.heap.size ≤ b) ∧ (∀ b, X' b → b < w'.heap.size) ∧ Fr X w w') →
    ∀ X w vs, J 0 X (fun _ => False) w → RSs X B0 w args vs →
      Calls P f (#[.func (.yield l) #[] #[]] ++ vs) w fun e w' => (∃ v, e = .returned v) ∧ ∃ i X O, (i = xs.length ∧ J i X O w') ∨ Jx i X O w'

theorem StR.start {C : Ctx} {args : List AV} {vs : Array Value} {n : Nat} (hlen : args.length ≤ n) (hR : RSs C.F B0 C.W args vs) (hX : ∀ b, C.F b → b < C.W.heap.size) (hsv : C.sv = []) (hro : C.ro = none) (hmp : ∀ b l, C.y ≠ some (.mp (some (b, l)))) :
    StR C ⟨n, slots args, [], 0, ⟨[], C.y⟩⟩ B0 { tmps := vs ++ Array.replicate (n - vs.size) undef, defers := [] } C.W := by
  obtain ⟨hl, hR⟩ := hR
  refine ⟨⟨fun d hd => by simp at hd, List.nodup_nil, fun l hl => (by rw [hro] at hl; cases hl), fun b l hb => absurd hb (hmp b l)⟩, by simp; omega, fun i => ?_, by simp, by simp, fun n r hr => by simp [B0] at hr, by simp, by simp, by simp, ⟨rfl, rfl, rfl, Nat.le_refl _, fun _ _ _ => rfl, fun _ _ _ h => h⟩, hX, ⟨by simp [hsv], fun j f g hf => by simp at hf⟩, rfl⟩
  by_cases hi' : i < args.length
  · have hlt : i < vs.size := by omega
    have e1 : (vs ++ Array.replicate (n - vs.size) undef).getD i undef = vs[i] := by
      rw [Array.getD_eq_getD_getElem?, Array.getElem?_append_left hlt, Array.getElem?_eq_getElem hlt]; rfl
    simp only [e1, slots]
    have e2 : args.getD i .unk = args[i] := by simp [List.getD, hi']
    rw [e2]
    refine (hR i _ _ (List.getElem?_eq_getElem hi') (Array.getElem?_eq_getElem hlt)).anti fun b hb => ?_
    rcases hb with hb | ⟨p, hp, _⟩
    · exact hb
    · simp at hp
  · have : args.getD i .unk = .unk := by simp [List.getD, List.getElem?_eq_none (Nat.le_of_not_lt hi')]
    simp only [slots, this]; exact .unk _

theorem yieldAt_mono {F : Fence} {m : Nat} {P : Program} {l : Nat} {args : Array Value} {W : World} {R R' : Ending → World → Prop} (h : YieldAt F m P l args W R) (hr : ∀ e w, R e w → R' e w) : YieldAt F m P l args W R' := by
  obtain ⟨fn, tmps, as, body, h1, h2⟩ := h
  exact ⟨fn, tmps, as, body, h1, h2.mono hr⟩

/-- An iterator's contract from its text. -/
theorem ISeq.intro {P : Program} {f : FuncId} {fn : Func} {c : Code} {args : List AV} {xs : List (List AV)} (n : Nat) (hm : P.follows .mixedOrders = true) (hf : P.funcs[f]? = some fn) (hname : (fn.name == "runtime.NumGoroutine") = false)
    (hb : fn.body = some c) (hres : fn.results = #[]) (hlen : args.length + 1 ≤ fn.ntmps)
    (hrun : ∀ l, vcRun P n [.c c] (fun s => s.x.y = none ∨ ∃ l, s.x.y = some (.it l [])) ⟨fn.ntmps, slots (.v (.func (.yield l) #[] #[]) :: args), [], 0, ⟨[], some (.it l xs)⟩⟩) : ISeq P f args xs := by
  refine ⟨⟨fn, hf, hname, by simp [hb]⟩, fun l J Jx hJ hJx hlt hy X w vs h0 hR => ?_⟩
  refine (callsIn_wide (n := 0)).1 (callsIn_of_wp_marks hf hb trivial ?_)
  let C : Ctx := ⟨P, X, fun _ => False, w, [], some (.it l xs), none⟩
  let Cs : Ctx → Prop := fun C => C.P = P ∧ C.ro = none ∧ ((∃ i, C.y = some (.it l (xs.drop i)) ∧ i ≤ xs.length ∧ J i C.F C.Pm C.W) ∨ (C.y = none ∧ ∃ i, Jx i C.F C.Pm C.W))
  have hg : GoodC P none Cs := by
    refine ⟨fun C h => h.1, fun C h => h.2.1, fun C l' as rest O w vs hC hyy hfr hO hl hvs => ?_, fun C m m' hC hyy => ?_⟩
    rotate_left
    · obtain ⟨_, _, ⟨i, hi, _⟩ | ⟨h, _⟩⟩ := hC
      · rw [hi] at hyy; cases hyy
      · rw [h] at hyy; cases hyy
    obtain ⟨h1, h2, h3⟩ := hC
    rcases h3 with ⟨i, hi, hile, hj⟩ | ⟨h, _⟩
    case inr => rw [h] at hyy; cases hyy
    rw [hi] at hyy
    simp only [Option.some.injEq, Yl.it.injEq] at hyy
    obtain ⟨rfl, hd⟩ := hyy
    have hx : xs[i]? = some as := by
      have := congrArg (fun l => l[0]?) hd
      simpa using this
    have hilt := (List.getElem?_eq_some_iff.1 hx).1
    have hrest : rest = xs.drop (i + 1) := by
      have := congrArg List.tail hd
      simpa using this.symm
    have hj' := hJ i C.F C.Pm C.W O w hj hfr (fun b hb => ⟨(hO b hb).1.symm, (hO b hb).2.2⟩)
    refine yieldAt_mono (hy i C.F O w as vs hj' hx ⟨hl, hvs⟩) ?_
    rintro e w' ⟨b, X', rfl, hJ', hX1, hX2, hfr'⟩
    refine ⟨{ C with F := X', Pm := O, W := w', y := if b then some (.it l rest) else none }, b, rfl, ⟨h1, h2, ?_⟩, ⟨rfl, hX1, rfl, hX2, hfr', rfl⟩, rfl⟩
    cases b
    · exact .inr ⟨rfl, i, hJ'⟩
    · exact .inl ⟨i + 1, by simp [hrest], hilt, hJ'⟩
  have hst : StR C ⟨fn.ntmps, slots (.v (.func (.yield l) #[] #[]) :: args), [], 0, ⟨[], some (.it l xs)⟩⟩ B0 { tmps := (#[.func (.yield l) #[] #[]] ++ vs) ++ Array.replicate (fn.ntmps - (#[.func (.yield l) #[] #[]] ++ vs : Array Value).size) undef, defers := [] } w := by
    refine StR.start (C := C) (by simpa using hlen) ⟨by have := hR.1; simp; omega, fun k s u hs hu => ?_⟩ (hlt 0 X _ w h0) rfl rfl (fun _ _ => by simp [C])
    match k with
    | 0 =>
      rw [Array.getElem?_append_left (by simp)] at hu
      simp at hs hu
      subst hs; subst hu; exact .v _
    | k + 1 =>
      refine hR.2 k s u (by simpa using hs) ?_
      rw [Array.getElem?_append_right (by simp)] at hu
      simpa using hu
  have hsound := vcRun_sound (P := P) hm n none Cs (fun a w' => LeavesInM Fence.wide 0 P fn a.tmps (fun e w' => (∃ v, e = .returned v) ∧ ∃ i X O, (i = xs.length ∧ J i X O w') ∨ Jx i X O w') a.defers .returning w') _ hg
    (fun s a w' hQ hs => by
      obtain ⟨C', hC', β, hs⟩ := hs
      obtain ⟨rfl, h2, h3⟩ := hC'
      refine leaves (C := C') (R := .t []) (by rw [hres]; exact rfl) (.t (by simp)) (fun v w'' h1 h4 => ⟨⟨v, rfl⟩, ?_⟩) _ a w' rfl hs
      rw [hs.yy] at hQ
      rcases h3 with ⟨i, hi, hile, hj⟩ | ⟨hi, i, hj⟩
      · rw [hi] at hQ
        rcases hQ with hQ | ⟨l', hQ⟩
        · cases hQ
        · simp only [Option.some.injEq, Yl.it.injEq] at hQ
          have := congrArg List.length hQ.2
          simp at this
          exact ⟨i, _, _, .inl ⟨by omega, hJ i _ _ _ (fun _ => False) _ hj h4 (fun b hb => hb.elim)⟩⟩
      · exact ⟨i, _, _, .inr (hJx i _ _ _ (fun _ => False) _ hj h4 (fun b hb => hb.elim))⟩) _ _ _ _ (hrun l) ⟨C, ⟨rfl, rfl, .inl ⟨0, rfl, Nat.zero_le _, h0⟩⟩, B0, hst⟩
  simp only [Kont] at hsound
  refine Code.wpIn_mono (fun e a' w' he => ?_) hsound
  cases e with
  | normal => exact he
  | ret => exact he
  | _ => exact he.elim

def Own (β : Bt) (h : List (Nat × Blk)) (b : Nat) : Prop := ∃ p ∈ h, ∃ o e, β p.1 = some (b, o, e)
def MarkOf (ds : List Deferred) (b : Nat) : Prop := ∃ d ∈ ds, d = { target := .collected b, args := #[] }

theorem RS.addX {X X' : Nat → Prop} {β : Bt} {w : World} (hX : ∀ b, X' b → X b ∨ ¬ IsC w b) {x : AV} {u : Value} (h : RS X β w x u) : RS X' β w x u := by
  induction h with
  | v x => exact .v x
  | unk x => exact .unk x
  | tb h hs => exact .tb h hs
  | ptr h => exact .ptr h
  | sl h hl hs hc => exact .sl h hl hs hc
  | slz => exact .slz
  | ez => exact .ez
  | ro0 => exact .ro0
  | ro u hx hb hl hd hu _ ih => exact .ro u (fun h => (hX _ h).elim hx (fun h => h hb)) hb hl hd hu ih
  | rp u hx hb hu _ ih => exact .rp u (fun h => (hX _ h).elim hx (fun h => h hb)) hb hu ih
  | fn hl _ ih => exact .fn hl ih
  | g hl _ ih => exact .g hl ih
  | t hl _ ih => exact .t hl ih

theorem StR.own_isC {C : Ctx} {s : AState} {β : Bt} {a : Act} {w : World} (h : StR C s β a w) {b : Nat} (hb : Own β s.h b) : IsC w b := by
  obtain ⟨p, hp, o, e, hb⟩ := hb
  rcases h.own p hp with ⟨b', o', c, t, h1, h2, _⟩ | ⟨_, h2⟩
  · rw [h1] at hb; cases hb; exact ⟨_, _, _, h2⟩
  · rw [h2] at hb; cases hb

theorem not_isC {w : World} {D : Nat} {o : Obj} (hD : w.heap[D]? = some o) (ho : ∀ c t q, o ≠ .cells c t q) : ¬ IsC w D := by
  rintro ⟨c, t, q, hc⟩
  rw [hD] at hc; cases hc; exact ho _ _ _ rfl

/-- The same slots and blocks, seen anew. -/
theorem StR.conv {C C' : Ctx} {s : AState} {β : Bt} {a a' : Act} {w w' : World} {n' : Nat} {t' : Nat → AV} {sv' : List (Nat → AV)} {y' : Option Yl} (h : StR C s β a w)
    (hv : ∀ x u, RS (XOf C.F β s.h) β w x u → RS (XOf C'.F β s.h) β w' x u) (hown : ∀ b, Own β s.h b → w'.heap[b]? = w.heap[b]?) (hbk : Bk C' w' a'.defers) (hsz : a'.tmps.size = n')
    (htm : ∀ i, RS (XOf C'.F β s.h) β w' (t' i) (a'.tmps.getD i undef)) (hmine : ∀ b, Own β s.h b → (C'.W.heap.size ≤ b ∨ C'.Pm b) ∧ ¬ C'.F b) (hfr : Fr C'.Pm C'.W w') (hFlt : ∀ b, C'.F b → b < C'.W.heap.size)
    (hsv : SvR (XOf C'.F β s.h) β w' sv' C'.sv) (hy : y' = C'.y) : StR C' ⟨n', t', s.h, s.k, ⟨sv', y'⟩⟩ β a' w' := by
  refine ⟨hbk, hsz, htm, fun p hp => ?_, h.lt, h.βlt, h.nd, h.inj, fun p hp b o e hb => hmine b ⟨p, hp, o, e, hb⟩, hfr, hFlt, hsv, hy⟩
  rcases h.own p hp with ⟨b, o, c, t, h1, h2, h3, h4, h5⟩ | ⟨h1, h2⟩
  · refine .inl ⟨b, o, c, t, h1, by rw [hown b ⟨p, hp, o, _, h1⟩]; exact h2, h3, h4, fun i j ch s hi hj => ?_⟩
    obtain ⟨u, hu, hr⟩ := h5 i j ch s hi hj
    exact ⟨u, hu, hv _ _ hr⟩
  · exact .inr ⟨h1, h2⟩

/-- **The rule for yield.** -/
theorem AtYl.use' {P : Program} {rec : List It → (AState → Prop) → AState → Prop} {o : Oper} {l : Nat} {as as' : List AV} {rest : List (List AV)} {k : List It} {Q : AState → Prop} {s : AState} {ns : List Nat}
    (has : as.map (frzA (find s.h) 3) = as') (hns : as.flatMap (namesA (find s.h) 3) = ns) (hy : s.x.y = some (.it l (as' :: rest))) (hcl : ∀ a ∈ as', Cl a)
    (hk : ∀ b : Bool, rec k Q (putA ⟨s.n, s.t, dropN ns s.h, s.k, ⟨s.x.sv, if b then some (.it l rest) else none⟩⟩ o.dst (.v (.bool b)))) : AtYl P rec o l #[] #[] as k Q s := by
  rintro ⟨fo, xs, ats, ho, hf, rfl⟩ ro Cs next E hg hnext a w ⟨C, hC, β, h⟩
  have hP := hg.prog C hC
  subst hP; subst has; subst hns
  refine ⟨fun _ _ => trivial, ?_⟩
  rw [Oper.semAt_eq _ _ _ (fun c hc => by rw [ho] at hc; cases hc)]
  have hfr := h.read fo
  rw [hf] at hfr
  generalize hv : a.eval fo = va at hfr
  cases hfr
  have hd := h.drop ((xs.toList.map (evA s.t)).flatMap (namesA (find s.h) 3))
  generalize hns : (xs.toList.map (evA s.t)).flatMap (namesA (find s.h) 3) = ns at hd hk
  obtain ⟨ha1, ha2⟩ := args_get (fun x => h.read x) xs
  let O : Nat → Prop := fun b => Own β (dropN ns s.h) b ∨ MarkOf a.defers b
  have hmk : ∀ b, MarkOf a.defers b → Mark C w { target := .collected b, args := #[] } := fun b ⟨d, hd, e⟩ => e ▸ h.defers.marks d hd
  have hmk2 : ∀ b, MarkOf a.defers b → w.heap[b]? = some (Obj.deferred (some [])) ∧ (C.W.heap.size ≤ b ∨ C.Pm b) ∧ ¬ C.F b := fun b hb => by
    obtain ⟨D, h1, h2, h3, h4⟩ := hmk b hb
    simp at h1; subst h1; exact ⟨h2, h3, h4⟩
  have hO : ∀ b, O b → (C.W.heap.size ≤ b ∨ C.Pm b) ∧ ¬ C.F b ∧ b < w.heap.size := by
    rintro b (⟨p, hp, o', e, hb⟩ | hb)
    · have hp' := (mem_dropN.1 hp).1
      exact ⟨(h.mine p hp' b o' e hb).1, (h.mine p hp' b o' e hb).2, h.lt_size hp' hb⟩
    · obtain ⟨h2, h3, h4⟩ := hmk2 b hb
      exact ⟨h3, h4, lt_of_get h2⟩
  have hyld := hg.yld C l _ rest O w (xs.map a.eval) hC (h.yy ▸ hy) h.fr hO (by simp) (fun q sv u hsv hu => by
    simp only [List.getElem?_map, Option.map_eq_some_iff] at hsv
    obtain ⟨x, ⟨x0, hx0, rfl⟩, rfl⟩ := hsv
    have hx : (xs.toList.map (evA s.t))[q]? = some (evA s.t x0) := by simp [hx0]
    have hrs := ha2 q _ u hx hu
    have hmem := List.mem_of_getElem? hx
    have h1 := (frzA_sound h ns 3 _ u hrs (fun n hn => by rw [← hns]; exact List.mem_flatMap.2 ⟨_, hmem, hn⟩)).closed (hcl _ (List.mem_map_of_mem hmem)) B0
    refine h1.addX fun b hb => ?_
    rcases hb with hb | hb | hb
    · exact .inl (.inl hb)
    · exact .inl (.inr hb)
    · exact .inr (not_isC (hmk2 b hb).1 (fun _ _ _ => by simp)))
  obtain ⟨fn', tmps', as', body', hyr, hround⟩ := hyld
  have hrun : (execOp a.eval o).run C.P w = .ok (.round l fn' tmps' as' body') w := by
    obtain ⟨_, op, _, _, _, _⟩ := o
    simp only at ho; subst ho
    simp [execOp, resolve, hv, Deferred.ofValue, invoke, hyr]
  rw [hrun]
  refine ⟨wd_depth, RoundIn.mono (show RoundIn (wd ro) 0 C.P l fn' tmps' as' body' w _ from hround) ?_⟩
  rintro e w' ⟨C', b, rfl, hC', hs, hy'⟩
  have hX1 : ∀ q, q < w.heap.size → ¬ C.F q → ¬ C'.F q := fun q hq h1 h2 => by
    rcases hs.F q h2 with h' | h'
    · exact h1 h'
    · omega
  have m : Mono (XOf C.F β (dropN ns s.h)) β w (XOf C'.F β (dropN ns s.h)) β w' := by
    refine ⟨fun q h1 h2 => ?_, fun _ _ h => h, hs.fr.size, fun q hq hX => hs.fr.block q hq (fun h => hX (.inl h)), hs.fr.shape⟩
    rcases h1 with h1 | h1
    · rcases hs.F q h1 with h' | h'
      · exact absurd (.inl h') h2
      · exact h'
    · exact absurd (.inr h1) h2
  have hst : StR C' ⟨s.n, s.t, dropN ns s.h, s.k, ⟨s.x.sv, if b then some (.it l rest) else none⟩⟩ β a w' := by
    refine hd.conv (fun x u hr => hr.mono m) (fun q hq => ?_) ⟨fun d hdd => ?_, h.defers.nd, fun l' hl' => ?_, fun q m hq => by rw [hy'] at hq; cases b <;> simp at hq⟩ h.size (fun i => (hd.tm i).mono m) (fun q hq => ?_) ?_ ?_ (hs.sv ▸ hd.sv.mono m) hy'.symm
    · have := hO q (.inl hq)
      exact hs.fr.block q this.2.2 this.2.1
    · obtain ⟨D, h1, h2, h3, h4⟩ := h.defers.marks d hdd
      have hlt := lt_of_get h2
      exact ⟨D, h1, (hs.fr.block D hlt h4).trans h2, .inr (by rw [hs.Pm]; exact .inr ⟨d, hdd, h1⟩), hX1 D hlt h4⟩
    · have hro : C.ro = some l' := by rw [hg.rnd C hC, ← hg.rnd C' hC']; exact hl'
      obtain ⟨⟨r, hr⟩, hF⟩ := h.defers.rd l' hro
      have hlt := lt_of_get hr
      exact ⟨⟨r, (hs.fr.block l' hlt hF).trans hr⟩, hX1 l' hlt hF⟩
    · have := hO q (.inl hq)
      exact ⟨.inr (by rw [hs.Pm]; exact .inl hq), hX1 q this.2.2 this.2.1⟩
    · rw [hs.W]; exact ⟨rfl, rfl, rfl, Nat.le_refl _, fun _ _ _ => rfl, fun _ _ _ h => h⟩
    · rw [hs.W]; exact hs.Flt
  exact hnext _ _ _ (hk b) ⟨C', hC', β, hst.put (.v _) o.dst⟩
end Go.Eng

set_option linter.unusedSimpArgs false
set_option linter.unusedVariables false
namespace Go.Eng
open Go Go.RowKit

theorem Fr.comp {Pm Q : Nat → Prop} {W w w' : World} (h : Fr Pm W w) (k : Fr Q w w') (hQ : ∀ b, Q b → W.heap.size ≤ b ∨ Pm b) : Fr Pm W w' := by
  refine ⟨k.os.trans h.os, k.tape.trans h.tape, k.output.trans h.output, Nat.le_trans h.size k.size, fun b hb hp => ?_, fun b t m hs => k.shape b t m (h.shape b t m hs)⟩
  rw [k.block b (Nat.lt_of_lt_of_le hb h.size) (fun hq => by rcases hQ b hq with h' | h'; · omega
                                                             · exact hp h')]
  exact h.block b hb hp
theorem Fr.wider {Pm Q : Nat → Prop} {W w : World} (h : Fr Pm W w) (hQ : ∀ b, b < W.heap.size → Pm b → Q b) : Fr Q W w :=
  ⟨h.os, h.tape, h.output, h.size, fun b hb hp => h.block b hb (fun hq => hp (hQ b hb hq)), h.shape⟩

/-- The slots with these arguments in these places. -/
def updL (t : Nat → AV) : List Nat → List AV → Nat → AV
  | p :: ps, a :: as => updL (upd t p a) ps as
  | _, _ => t

theorem tmps_fold {X : Nat → Prop} {β : Bt} {w : World} : ∀ (ps : List Nat) (as : List AV) (vs : List Value) (t : Nat → AV) (tm : Array Value), as.length = vs.length →
    (∀ (k : Nat) (s : AV) (u : Value), as[k]? = some s → vs[k]? = some u → RS X β w s u) → (∀ p ∈ ps, p < tm.size) → (∀ i, RS X β w (t i) (tm.getD i undef)) →
    ∀ i, RS X β w (updL t ps as i) (((ps.zip vs).foldl (fun t (p, v) => t.setIfInBounds p v) tm).getD i undef)
  | [], as, vs, t, tm, hl, hR, hp, ht, i => by simpa [updL] using ht i
  | p :: ps, [], [], t, tm, hl, hR, hp, ht, i => by simpa [updL] using ht i
  | p :: ps, a :: as, v :: vs, t, tm, hl, hR, hp, ht, i => by
    simp only [updL, List.zip_cons_cons, List.foldl_cons]
    refine tmps_fold ps as vs (upd t p a) _ (by simpa using hl) (fun k s u hs hu => hR (k + 1) s u hs hu) (fun q hq => by simpa using hp q (List.mem_cons_of_mem _ hq)) (fun j => ?_) i
    have hps := hp p List.mem_cons_self
    simp only [upd]
    split
    · rename_i e; subst e
      have : (tm.setIfInBounds j v).getD j undef = v := by simp [Array.getD, hps]
      rw [this]; exact hR 0 a v rfl rfl
    · rename_i e
      have : (tm.setIfInBounds p v).getD j undef = tm.getD j undef := by
        simp only [Array.getD_eq_getD_getElem?, Array.getElem?_setIfInBounds]
        rw [if_neg (fun e' => e e'.symm)]
      rw [this]; exact ht j

theorem fold_size (ps : List (Nat × Value)) : ∀ tm : Array Value, (ps.foldl (fun t (p, v) => t.setIfInBounds p v) tm).size = tm.size := by
  induction ps with
  | nil => intro tm; rfl
  | cons x ps ih => intro tm; simp only [List.foldl_cons]; rw [ih]; simp

/-- What is between two rounds: the slots are not looked at. -/
def hid (n : Nat) (s : AState) : AState := ⟨n, fun _ => .unk, s.h, s.k, s.x⟩
/-- Behind the loop the slots are the saved ones again. -/
def rest (n : Nat) (y : Option Yl) (s : AState) : AState := ⟨n, s.x.sv.headD (fun _ => .unk), s.h, s.k, ⟨s.x.sv.tail, y⟩⟩

section
variable (P : Program) (C : Ctx) (a : Act) (l : Nat) (mk : List Deferred) (B : Nat) (r0 : Loop)

/-- The context of a round that begins in W. -/
def CR (β : Bt) (h : List (Nat × Blk)) (O : Nat → Prop) (W : World) : Ctx :=
  ⟨C.P, fun b => C.F b ∨ O b, Own β h, W, (fun i => a.tmps.getD i undef) :: C.sv, none, some l⟩

/-- What stands between two rounds. -/
structure GR (S : AState) (rr : Loop) (X O : Nat → Prop) (W : World) (β : Bt) : Prop where
  st : StR (CR C a l β S.h O W) S β ⟨a.tmps, []⟩ W
  fr : Fr C.Pm C.W W
  mine : ∀ b, Own β S.h b → C.W.heap.size ≤ b ∨ C.Pm b
  rcd : W.heap[l]? = some (Obj.loop rr)
  bk : Bk C W (mk ++ a.defers)
  hX : ∀ b, X b ↔ (C.F b ∨ Own β S.h b ∨ b = l ∨ MarkOf (mk ++ a.defers) b)
  hO : ∀ b, O b → B ≤ b ∧ b < W.heap.size ∧ ¬ X b
  hB : C.W.heap.size ≤ B ∧ B ≤ l ∧ ∀ q, C.ro = some q → q < B
  nomp : ∀ b l, C.y ≠ some (.mp (some (b, l)))
end

section
variable {P : Program} {C : Ctx} {a : Act} {l : Nat} {mk : List Deferred} {B : Nat} {S : AState} {rr : Loop} {X O : Nat → Prop} {W : World} {β : Bt}

theorem GR.Xlt (h : GR C a l mk B S rr X O W β) (b : Nat) (hb : X b) : b < W.heap.size := by
  rcases (h.hX b).1 hb with h1 | h1 | h1 | ⟨d, hd, e⟩
  · have := h.st.Flt b (.inl h1); exact this
  · exact (h.st.own_isC h1).lt
  · subst h1; exact lt_of_get h.rcd
  · obtain ⟨D, e', h2, _⟩ := h.bk.marks d hd
    rw [e] at e'; simp at e'; subst e'; exact lt_of_get h2

theorem GR.stab (h : GR C a l mk B S rr X O W β) {O' : Nat → Prop} {W' : World} (hfr : Fr O W W') (hO' : ∀ b, O' b → (O b ∨ W.heap.size ≤ b) ∧ b < W'.heap.size) : GR C a l mk B S rr X O' W' β := by
  have m : Mono (XOf (CR C a l β S.h O W).F β S.h) β W (XOf (CR C a l β S.h O' W').F β S.h) β W' := by
    refine ⟨fun b h1 h2 => ?_, fun _ _ h => h, hfr.size, fun b hb hX => hfr.block b hb (fun hO => hX (.inl (.inr hO))), hfr.shape⟩
    rcases h1 with (h1 | h1) | h1
    · exact absurd (.inl (.inl h1)) h2
    · rcases (hO' b h1).1 with h3 | h3
      · exact absurd (.inl (.inr h3)) h2
      · exact h3
    · exact absurd (.inr h1) h2
  have hnO : ∀ b, Own β S.h b → ¬ O b := fun b hb hO => (h.hO b hO).2.2 ((h.hX b).2 (.inr (.inl hb)))
  have hkeep : ∀ (b : Nat) (o : Obj), W.heap[b]? = some o → ¬ O b → W'.heap[b]? = W.heap[b]? := fun b o hb hO => hfr.block b (lt_of_get hb) hO
  have hrec : W'.heap[l]? = some (Obj.loop rr) := (hkeep l _ h.rcd (fun hO => (h.hO l hO).2.2 ((h.hX l).2 (.inr (.inr (.inl rfl)))))).trans h.rcd
  have hown : ∀ b, Own β S.h b → W'.heap[b]? = W.heap[b]? := fun b hb => hfr.block b (h.st.own_isC hb).lt (hnO b hb)
  have hO2 : ∀ b, O' b → B ≤ b ∧ b < W'.heap.size ∧ ¬ X b := fun b hb => by
    rcases (hO' b hb).1 with h3 | h3
    · exact ⟨(h.hO b h3).1, (hO' b hb).2, (h.hO b h3).2.2⟩
    · exact ⟨by have := h.hB.2.1; have := lt_of_get h.rcd; omega, (hO' b hb).2, fun hX => by have := h.Xlt b hX; omega⟩
  refine ⟨?_, h.fr.comp hfr (fun b hb => .inl (Nat.le_trans h.hB.1 (h.hO b hb).1)), h.mine, hrec, ?_, h.hX, hO2, h.hB, h.nomp⟩
  · refine h.st.conv (fun x u hr => hr.mono m) hown ⟨fun d hd => by simp at hd, List.nodup_nil, fun q hq => ?_, fun _ _ hb => (by cases hb)⟩ h.st.size (fun i => (h.st.tm i).mono m) (fun b hb => ?_) ⟨rfl, rfl, rfl, Nat.le_refl _, fun _ _ _ => rfl, fun _ _ _ h => h⟩ (fun b hb => ?_) (h.st.sv.mono m) h.st.yy
    · simp only [CR, Option.some.injEq] at hq
      subst hq
      refine ⟨⟨rr, hrec⟩, fun hF => ?_⟩
      rcases hF with hF | hF
      · exact (h.st.defers.rd l rfl).2 (.inl hF)
      · exact (hO2 l hF).2.2 ((h.hX l).2 (.inr (.inr (.inl rfl))))
    · refine ⟨.inr hb, fun hF => ?_⟩
      rcases hF with hF | hF
      · have : ¬ (CR C a l β S.h O W).F b := by
          obtain ⟨p, hp, o, e, hb⟩ := hb
          exact (h.st.mine p hp b o e hb).2
        exact this (.inl hF)
      · exact (hO2 b hF).2.2 ((h.hX b).2 (.inr (.inl hb)))
    · rcases hb with hb | hb
      · have := h.st.Flt b (.inl hb); exact Nat.lt_of_lt_of_le this hfr.size
      · exact (hO2 b hb).2.1
  · refine ⟨fun d hd => ?_, h.bk.nd, fun q hq => ?_, fun b l hb => absurd hb (h.nomp b l)⟩
    · obtain ⟨D, h1, h2, h3, h4⟩ := h.bk.marks d hd
      exact ⟨D, h1, (hkeep D _ h2 (fun hO => (h.hO D hO).2.2 ((h.hX D).2 (.inr (.inr (.inr ⟨d, hd, h1⟩)))))).trans h2, h3, h4⟩
    · obtain ⟨⟨r, hr⟩, hF⟩ := h.bk.rd q hq
      exact ⟨⟨r, (hkeep q _ hr (fun hO => by have := (h.hO q hO).1; have := h.hB.2.2 q hq; omega)).trans hr⟩, hF⟩

theorem GR.step (h : GR C a l mk B S rr X O W β) {S' : AState} {rr' : Loop} {w4 : World} {β' : Bt} (hst : StR { CR C a l β S.h O W with Pm := fun b => Own β S.h b ∨ b = l } S' β' ⟨a.tmps, []⟩ w4) (hrec : w4.heap[l]? = some (Obj.loop rr')) :
    ∃ X', GR C a l mk B S' rr' X' O w4 β' ∧ (∀ b, X' b → X b ∨ W.heap.size ≤ b) ∧ Fr X W w4 := by
  have hfr : Fr (fun b => Own β S.h b ∨ b = l) W w4 := hst.fr
  have hm : ∀ b, Own β' S'.h b → (W.heap.size ≤ b ∨ Own β S.h b ∨ b = l) ∧ ¬ (C.F b ∨ O b) := fun b ⟨p, hp, o, e, hb⟩ => hst.mine p hp b o e hb
  have hkeep : ∀ (D : Nat) (o : Obj), W.heap[D]? = some o → (∀ c t q, o ≠ .cells c t q) → D ≠ l → w4.heap[D]? = W.heap[D]? := fun D o hD ho hne =>
    hfr.block D (lt_of_get hD) (fun hh => hh.elim (fun hh => not_isC hD ho (h.st.own_isC hh)) hne)
  refine ⟨fun b => C.F b ∨ Own β' S'.h b ∨ b = l ∨ MarkOf (mk ++ a.defers) b, ⟨?_, ?_, fun b hb => ?_, hrec, ⟨fun d hd => ?_, h.bk.nd, fun q hq => ?_, fun b l hb => absurd hb (h.nomp b l)⟩, fun b => Iff.rfl, fun b hb => ?_, h.hB, h.nomp⟩, fun b hb => ?_, ?_⟩
  · refine hst.conv (C' := CR C a l β' S'.h O w4) (fun x u hr => hr) (fun _ _ => rfl) ⟨fun d hd => by simp at hd, List.nodup_nil, fun q hq => hst.defers.rd q hq, fun _ _ hb => (by cases hb)⟩ hst.size hst.tm (fun b hb => ⟨.inr hb, (hm b hb).2⟩) ⟨rfl, rfl, rfl, Nat.le_refl _, fun _ _ _ => rfl, fun _ _ _ h => h⟩ (fun b hb => ?_) hst.sv hst.yy
    have := h.st.Flt b hb
    exact Nat.lt_of_lt_of_le this hfr.size
  · exact h.fr.comp hfr (fun b hb => hb.elim (h.mine b) (fun e => .inl (by subst e; exact Nat.le_trans h.hB.1 h.hB.2.1)))
  · rcases (hm b hb).1 with h1 | h1 | h1
    · exact .inl (Nat.le_trans h.fr.size h1)
    · exact h.mine b h1
    · subst h1; exact .inl (Nat.le_trans h.hB.1 h.hB.2.1)
  · obtain ⟨D, h1, h2, h3⟩ := h.bk.marks d hd
    exact ⟨D, h1, (hkeep D _ h2 (fun _ _ _ => by simp) (fun e => by subst e; rw [h.rcd] at h2; cases h2)).trans h2, h3⟩
  · obtain ⟨⟨r, hr⟩, hF⟩ := h.bk.rd q hq
    exact ⟨⟨r, (hkeep q _ hr (fun _ _ _ => by simp) (fun e => by have := h.hB.2.2 q hq; have := h.hB.2.1; omega)).trans hr⟩, hF⟩
  · have h1 := h.hO b hb
    refine ⟨h1.1, Nat.lt_of_lt_of_le h1.2.1 hfr.size, fun hX => ?_⟩
    rcases hX with hX | hX | hX
    · exact h1.2.2 ((h.hX b).2 (.inl hX))
    · exact (hm b hX).2 (.inr hb)
    · exact h1.2.2 ((h.hX b).2 (.inr (.inr hX)))
  · rcases hb with hb | hb | hb
    · exact .inl ((h.hX b).2 (.inl hb))
    · rcases (hm b hb).1 with h1 | h1 | h1
      · exact .inr h1
      · exact .inl ((h.hX b).2 (.inr (.inl h1)))
      · exact .inl ((h.hX b).2 (.inr (.inr (.inl h1))))
    · exact .inl ((h.hX b).2 (.inr (.inr hb)))
  · exact hfr.wider (fun b _ hb => (h.hX b).2 (.inr (hb.elim .inl (fun e => .inr (.inl e)))))
end

/-- The record is laid. -/
theorem enter_any {P : Program} {ro : Option Nat} {C : Ctx} {w : World} {ds : List Deferred} (hro : C.ro = ro) (hbk : Bk C w ds) (hF : ∀ b, C.F b → b < w.heap.size) (hW : C.W.heap.size ≤ w.heap.size) (fn : FuncId) (tmps : Array Value) (ps : Array Tmp) (as body : Code) :
    ∃ (l : Nat) (mk : List Deferred) (w1 : World) (r : Loop), (Instr.enterLoop fn tmps ps as body ro).run P w = .ok (l, mk) w1 ∧ Ext w w1 ∧ w1.heap[l]? = some (Obj.loop r) ∧ w.heap.size ≤ l ∧
      (r.state = .ready ∧ r.pending = none ∧ r.fn = fn ∧ r.tmps = tmps ∧ r.params = ps ∧ r.assign = as ∧ r.body = body) ∧ Bk C w1 (mk ++ ds) := by
  have ext1 : ∀ (w : World) (o : Obj), Ext w (w.alloc o) := fun w o => ⟨rfl, rfl, rfl, by rw [World.size_alloc]; omega, fun b hb => Below.heap_alloc _ _ _ hb⟩
  cases ro with
  | none =>
    refine ⟨_, _, _, { state := .ready, pending := none, fn, tmps, params := ps, assign := as, body, defers := w.heap.size }, run_enterLoop_outer _ _ _ _ _, (ext1 _ _).trans (ext1 _ _), ?_, by omega, ⟨rfl, rfl, rfl, rfl, rfl, rfl, rfl⟩, ?_⟩
    · have := World.alloc_heap_new (w.alloc (.deferred (some []))) (.loop { state := .ready, pending := none, fn, tmps, params := ps, assign := as, body, defers := w.heap.size })
      rwa [World.size_alloc] at this
    · have e2 := (ext1 w (.deferred (some []))).trans (ext1 (w.alloc (.deferred (some []))) (.loop { state := .ready, pending := none, fn, tmps, params := ps, assign := as, body, defers := w.heap.size }))
      have hb2 := hbk.keep fun D o hD _ _ => e2.block D (lt_of_get hD)
      refine ⟨fun d hd => ?_, ?_, hb2.rd, hb2.mp⟩
      · simp only [List.singleton_append, List.mem_cons] at hd
        rcases hd with rfl | hd
        · refine ⟨w.heap.size, rfl, ?_, .inl hW, fun h => by have := hF _ h; omega⟩
          exact ((ext1 _ _).block _ (by rw [World.size_alloc]; omega)).trans (World.alloc_heap_new w _)
        · exact hb2.marks d hd
      · simp only [List.singleton_append, List.nodup_cons]
        refine ⟨fun hm => ?_, hbk.nd⟩
        obtain ⟨D, h1, h2, _⟩ := hbk.marks _ hm
        simp at h1
        have := lt_of_get h2
        omega
  | some l₀ =>
    obtain ⟨⟨r₀, hr⟩, hF0⟩ := hbk.rd l₀ hro
    refine ⟨_, _, _, { state := .ready, pending := none, fn, tmps, params := ps, assign := as, body, defers := r₀.defers }, run_enterLoop_inner hr _ _ _ _ _, ext1 _ _, World.alloc_heap_new w _, Nat.le_refl _, ⟨rfl, rfl, rfl, rfl, rfl, rfl, rfl⟩, ?_⟩
    exact hbk.keep fun D o hD _ _ => (ext1 _ _).block D (lt_of_get hD)
end Go.Eng

set_option linter.unusedSimpArgs false
set_option linter.unusedVariables false
namespace Go.Eng
open Go Go.RowKit

theorem foldl_zip (ps : Array Nat) (vs : Array Value) (tm : Array Value) :
    (ps.zip vs).foldl (fun t (x : Nat × Value) => t.setIfInBounds x.1 x.2) tm = (ps.toList.zip vs.toList).foldl (fun t (x : Nat × Value) => t.setIfInBounds x.1 x.2) tm := by
  rw [← Array.foldl_toList, Array.toList_zip]

/-- **The rule for 'for .. range f'.** -/
theorem AtCode.range' {P : Program} {rec : List It → (AState → Prop) → AState → Prop} {g : Operand} {ps : Array Tmp} {assign body : Code} {k : List It} {Q : AState → Prop} {s : AState} {gf : Nat} {caps' : List AV} {xs : List (List AV)} {ns : List Nat}
    (iT : Nat → Nat → AV) (iS : Nat → List (Nat → AV)) (iH : Nat → List (Nat × Blk)) (iK : Nat → Nat)
    (hgf : frzA (find s.h) 3 (evA s.t g) = .fn gf caps') (hns : namesA (find s.h) 3 (evA s.t g) = ns) (hcl : ∀ x ∈ caps', Cl x) (hseq : ISeq P gf caps' xs) (hps : ∀ as ∈ xs, as.length = ps.size) (hpn : ∀ p ∈ ps.toList, p < s.n)
    (h0 : Le ⟨s.n, fun _ => .unk, dropN ns s.h, s.k, ⟨s.t :: s.x.sv, none⟩⟩ ⟨s.n, fun _ => .unk, iH 0, iK 0, ⟨iT 0 :: iS 0, none⟩⟩)
    (hr : ∀ i as, xs[i]? = some as → rec [.c assign, .lp (fun s1 => rec [.c body, .lp (fun s2 => Le (hid s.n s2) ⟨s.n, fun _ => .unk, iH (i + 1), iK (i + 1), ⟨iT (i + 1) :: iS (i + 1), none⟩⟩)] (fun s2 => s2.x.sv ≠ [] ∧ Q (rest s.n s.x.y s2)) s1)] (fun _ => False)
      ⟨s.n, updL (iT i) ps.toList as, iH i, iK i, ⟨iT i :: iS i, none⟩⟩)
    (hk : rec k Q ⟨s.n, iT xs.length, iH xs.length, iK xs.length, ⟨iS xs.length, s.x.y⟩⟩) (hnm : ∀ b l, s.x.y ≠ some (.mp (some (b, l))) := by simp) : AtCode P rec (.rangeFunc g ps assign body) k Q s := by
  intro ro Cs Fin hg hm hrec hQ a w hs
  obtain ⟨C, hC, β, h⟩ := hs
  have hP := hg.prog C hC
  have hro := hg.rnd C hC
  subst hP
  obtain ⟨⟨fnI, hfnI, hnameI, hbodyI⟩, hseq⟩ := hseq
  have hd := h.drop ns
  have hfv := frzA_sound h ns 3 _ _ (h.read g) (fun n hn => hns ▸ hn)
  rw [hgf] at hfv
  generalize hgv : a.eval g = va at hfv
  cases hfv with
  | fn hcl1 hcR =>
  rename_i vs
  let S : Nat → AState := fun i => ⟨s.n, fun _ => .unk, iH i, iK i, ⟨iT i :: iS i, none⟩⟩
  refine wpIn_rangeFunc fun fn hfn => ?_
  obtain ⟨l, mk, w1, r, hent, ext, hl, hle, ⟨hr1, hr2, hr3, hr4, hr5, hr6, hr7⟩, hbk⟩ := enter_any (P := C.P) (ro := ro) hro h.defers (fun b hb => Nat.lt_of_lt_of_le (h.Flt b hb) h.fr.size) h.fr.size fn a.tmps ps assign body
  have eg : ∀ args w, (callFunc gf args).run C.P w = .ok (.enter gf args) w := by
    intro args w
    have hnb : ¬ fnI.body = none := by cases hb : fnI.body <;> simp_all
    have hne : ¬ fnI.name = "runtime.NumGoroutine" := by simpa using hnameI
    simp [callFunc, hfnI, hne, hnb]
  refine ⟨l, mk, w1, { target := .fn (.func gf) vs, args := #[.func (.yield l) #[] #[]] }, w1, gf, #[.func (.yield l) #[] #[]] ++ vs, w1, hent, ?_, fun _ _ => trivial, ?_, wd_depth, callsIn_wd ?_⟩
  · simp only [resolve, hgv]
    simp [go_sem]
  · simp [invoke, go_sem, eg]
  -- the world at the first round
  have hst1 : StR C ⟨s.n, s.t, dropN ns s.h, s.k, s.x⟩ β a w1 := hd.ext ext
  have hownlt : ∀ b, Own β (dropN ns s.h) b → b < w.heap.size := fun b hb => (hd.own_isC hb).lt
  have hmine0 : ∀ b, Own β (dropN ns s.h) b → (C.W.heap.size ≤ b ∨ C.Pm b) ∧ ¬ C.F b := fun b ⟨p, hp, o, e, hb⟩ => hd.mine p hp b o e hb
  have hlC : ¬ C.F l := fun hF => by have := h.Flt l hF; have := h.fr.size; omega
  let c0 : Ctx := { CR C a l β (dropN ns s.h) (fun _ => False) w1 with Pm := fun b => Own β (dropN ns s.h) b }
  have hst2 : StR c0 ⟨s.n, fun _ => .unk, dropN ns s.h, s.k, ⟨s.t :: s.x.sv, none⟩⟩ β ⟨a.tmps, []⟩ w1 := by
    have hXe : ∀ b, XOf c0.F β (dropN ns s.h) b ↔ XOf C.F β (dropN ns s.h) b := fun b => by simp [XOf, c0, CR]
    refine hst1.conv (C' := c0) (fun x u hr => hr.anti fun b hb => (hXe b).1 hb) (fun _ _ => rfl) ⟨fun d hd => by simp at hd, List.nodup_nil, fun q hq => ?_, fun _ _ hb => (by cases hb)⟩ hst1.size (fun i => .unk _) (fun b hb => ⟨.inr hb, ?_⟩) ⟨rfl, rfl, rfl, Nat.le_refl _, fun _ _ _ => rfl, fun _ _ _ h => h⟩ (fun b hb => ?_) ?_ rfl
    · simp only [c0, CR, Option.some.injEq] at hq
      subst hq
      exact ⟨⟨r, hl⟩, fun hF => hF.elim hlC id⟩
    · rintro (hF | hF)
      · exact (hmine0 b hb).2 hF
      · exact hF
    · rcases hb with hb | hb
      · exact Nat.lt_of_lt_of_le (Nat.lt_of_lt_of_le (h.Flt b hb) h.fr.size) ext.size
      · exact hb.elim
    · refine ⟨by simp [c0, CR, hst1.sv.1], fun j f gg hf hgg i => ?_⟩
      match j with
      | 0 =>
        simp only [c0, CR, List.getElem?_cons_zero, Option.some.injEq] at hf hgg
        subst hf; subst hgg
        exact (hst1.tm i).anti fun b hb => (hXe b).1 hb
      | j + 1 => exact (hst1.sv.2 j f gg (by simpa using hf) (by simpa [c0, CR] using hgg) i).anti fun b hb => (hXe b).1 hb
  obtain ⟨β0, hst3⟩ := h0 c0 ⟨a.tmps, []⟩ w1 ⟨β, hst2⟩
  have hm3 : ∀ b, Own β0 (iH 0) b → (w1.heap.size ≤ b ∨ Own β (dropN ns s.h) b) ∧ ¬ (C.F b ∨ False) := fun b ⟨p, hp, o, e, hb⟩ => hst3.mine p hp b o e hb
  let X0 : Nat → Prop := fun b => C.F b ∨ Own β0 (iH 0) b ∨ b = l ∨ MarkOf (mk ++ a.defers) b
  have hG0 : GR C a l mk w.heap.size (S 0) r X0 (fun _ => False) w1 β0 := by
    refine ⟨?_, hst1.fr, fun b hb => ?_, hl, hbk, fun b => Iff.rfl, fun b hb => hb.elim, ⟨h.fr.size, hle, fun q hq => ?_⟩, fun b l hb => hnm b l (h.yy ▸ hb)⟩
    · exact hst3.conv (C' := CR C a l β0 (iH 0) (fun _ => False) w1) (fun x u hr => hr) (fun _ _ => rfl) ⟨fun d hd => by simp at hd, List.nodup_nil, hst3.defers.rd, fun _ _ hb => (by cases hb)⟩ hst3.size hst3.tm (fun b hb => ⟨.inr hb, (hm3 b hb).2⟩) ⟨rfl, rfl, rfl, Nat.le_refl _, fun _ _ _ => rfl, fun _ _ _ h => h⟩ hst3.Flt hst3.sv hst3.yy
    · rcases (hm3 b hb).1 with h1 | h1
      · exact .inl (Nat.le_trans (Nat.le_trans h.fr.size ext.size) h1)
      · exact (hmine0 b h1).1
    · obtain ⟨⟨r', hr'⟩, _⟩ := h.defers.rd q hq
      exact lt_of_get hr'
  let rdone : Loop := { r with state := .done, pending := some .ret }
  refine Calls.mono (hseq l (fun i X O W => ∃ β', GR C a l mk w.heap.size (S i) r X O W β') (fun _ X O W => ∃ s2 β', (s2.x.sv ≠ [] ∧ Q (rest s.n s.x.y s2)) ∧ GR C a l mk w.heap.size (hid s.n s2) rdone X O W β') ?_ ?_ ?_ ?_ X0 w1 vs ⟨β0, hG0⟩ ?_) ?_
  · rintro i X O W O' W' ⟨β', hG⟩ hfr hO'
    exact ⟨β', hG.stab hfr hO'⟩
  · rintro i X O W O' W' ⟨s2, β', hq, hG⟩ hfr hO'
    exact ⟨s2, β', hq, hG.stab hfr hO'⟩
  · rintro i X O W ⟨β', hG⟩
    exact hG.Xlt
  · -- one round
    rintro i X O W as us ⟨β', hG⟩ hx ⟨husl, husR⟩
    have hlen := hps as (List.mem_of_getElem? hx)
    have hcap := run_yield (P := C.P) (args := us) hG.rcd (by rw [hr5]; omega)
    rw [hr3, hr4, hr5, hr6, hr7] at hcap
    refine ⟨fn, _, assign, body, hcap, roundIn_of_wpIn (F := Fence.wide) trivial ?_⟩
    -- the start of the round
    have hX1 : ∀ b, XOf (CR C a l β' (iH i) O W).F β' (iH i) b → X b ∨ O b := fun b hb => by
      rcases hb with (hb | hb) | hb
      · exact .inl ((hG.hX b).2 (.inl hb))
      · exact .inr hb
      · exact .inl ((hG.hX b).2 (.inr (.inl hb)))
    have hstart : StR (CR C a l β' (iH i) O W) ⟨s.n, updL (iT i) ps.toList as, iH i, iK i, ⟨iT i :: iS i, none⟩⟩ β' ⟨(ps.zip us).foldl (fun t (x : Nat × Value) => t.setIfInBounds x.1 x.2) a.tmps, []⟩ W := by
      rw [foldl_zip]
      refine hG.st.conv (C' := CR C a l β' (iH i) O W) (fun x u hr => hr) (fun _ _ => rfl) hG.st.defers (by rw [fold_size]; exact hG.st.size) ?_ (fun b ⟨p, hp, o, e, hb⟩ => hG.st.mine p hp b o e hb) hG.st.fr hG.st.Flt hG.st.sv hG.st.yy
      refine tmps_fold ps.toList as us.toList (iT i) a.tmps (by simpa using husl) (fun q s' u hs hu => ?_) (fun p hp => ?_) (fun j => ?_)
      · have := husR q s' u hs (by simpa using hu)
        exact (this.anti hX1).mono ⟨fun _ h h' => absurd h h', (fun _ _ h => by cases h), Nat.le_refl _, fun _ _ _ => rfl, fun _ _ _ h => h⟩
      · rw [h.size]; exact hpn p hp
      · exact hG.st.sv.2 0 (iT i) (fun i => a.tmps.getD i undef) rfl rfl j
    have hA := hrec (some l) (· = CR C a l β' (iH i) O W) (fun _ _ => False) (fun _ => False) (GoodC.one (C := CR C a l β' (iH i) O W) rfl rfl) (fun _ _ _ h => h.elim) _ _ _ _ (hr i as hx) ⟨_, rfl, β', hstart⟩
    simp only [Kont] at hA
    refine Code.wpIn_mono (fun e a1 w2 he => ?_) hA
    cases e with
    | normal => ?_
    | _ => exact he.elim
    obtain ⟨s1, ⟨_, rfl, β1, hs1⟩, hbod⟩ := he
    have hfr1 : Fr (Own β' (iH i)) W w2 := hs1.fr
    have hno : ∀ (r : Loop) c t q, Obj.loop r ≠ .cells c t q := fun _ _ _ _ => by simp
    have hlW : ¬ Own β' (iH i) l := fun ho => not_isC hG.rcd (hno _) (hG.st.own_isC ho)
    have hrec1 : w2.heap[l]? = some (Obj.loop r) := (hfr1.block l (lt_of_get hG.rcd) hlW).trans hG.rcd
    refine ⟨_, run_beginRound hrec1 hr1, ?_⟩
    obtain ⟨w3, hw3⟩ : ∃ w3, w2.putObj l (.loop { r with state := .busy }) = w3 := ⟨_, rfl⟩
    rw [hw3]
    have hoff : ∀ b, IsC w2 b → w3.heap[b]? = w2.heap[b]? := by rw [← hw3]; exact off_put hrec1 (hno _)
    have hz3 : w3.heap.size = w2.heap.size := by rw [← hw3]; simp [World.putObj]
    have hrec3 : w3.heap[l]? = some (Obj.loop { r with state := .busy }) := by rw [← hw3]; exact World.putObj_heap_same (lt_of_get hrec1)
    have hoth3 : ∀ b, b ≠ l → w3.heap[b]? = w2.heap[b]? := fun b hb => by rw [← hw3]; exact World.putObj_heap_other hb
    let CB : Ctx := { CR C a l β' (iH i) O W with W := w3, Pm := fun b => Own β1 s1.h b ∨ MarkOf a1.defers b }
    have hm1 : ∀ b, Own β1 s1.h b → (W.heap.size ≤ b ∨ Own β' (iH i) b) ∧ ¬ (C.F b ∨ O b) := fun b ⟨p, hp, o, e, hb⟩ => hs1.mine p hp b o e hb
    have hmk1 : ∀ b, MarkOf a1.defers b → w2.heap[b]? = some (Obj.deferred (some [])) ∧ (W.heap.size ≤ b ∨ Own β' (iH i) b) := fun b ⟨d, hd, e⟩ => by
      obtain ⟨D, h1, h2, h3, _⟩ := hs1.defers.marks d hd
      rw [e] at h1; simp at h1; subst h1; exact ⟨h2, h3⟩
    have hsB : StR CB s1 β1 a1 w3 := by
      refine hs1.conv (C' := CB) (fun x u hr => hr.off hoff) (fun b hb => hoff b (hs1.own_isC hb)) ⟨fun d hd => ?_, hs1.defers.nd, fun q hq => ?_, fun _ _ hb => (by cases hb)⟩ hs1.size (fun j => (hs1.tm j).off hoff) (fun b hb => ⟨.inr (.inl hb), (hm1 b hb).2⟩) ⟨rfl, rfl, rfl, Nat.le_refl _, fun _ _ _ => rfl, fun _ _ _ h => h⟩ (fun b hb => ?_) ⟨hs1.sv.1, fun j f gg hf hgg i => (hs1.sv.2 j f gg hf hgg i).off hoff⟩ hs1.yy
      · obtain ⟨D, h1, h2, h3, h4⟩ := hs1.defers.marks d hd
        exact ⟨D, h1, (hoth3 D (fun e => by subst e; rw [hrec1] at h2; cases h2)).trans h2, .inr (.inr ⟨d, hd, h1⟩), h4⟩
      · simp only [CB, CR, Option.some.injEq] at hq
        subst hq
        exact ⟨⟨_, hrec3⟩, (hs1.defers.rd _ rfl).2⟩
      · have h1 := hs1.Flt b hb
        have h2 := hs1.fr.size
        show b < w3.heap.size
        rw [hz3]; exact Nat.lt_of_lt_of_le h1 h2
    have fin : ∀ (s2 : AState) (β2 : Bt) (a3 : Act) (w4 : World) (jump : Option Code), StR CB s2 β2 a3 w4 →
        ∃ w5, (Instr.endRound l jump).run C.P w4 = .ok (.bool jump.isNone) w5 ∧ StR { CR C a l β' (iH i) O W with Pm := fun b => Own β' (iH i) b ∨ b = l } (hid s.n s2) β2 ⟨a.tmps, []⟩ w5 ∧
          w5.heap[l]? = some (Obj.loop { r with state := if jump.isNone then .ready else .done, pending := jump }) := by
      intro s2 β2 a3 w4 jump hs2
      have hlB : ¬ (Own β1 s1.h l ∨ MarkOf a1.defers l) := by
        rintro (ho | ho)
        · exact not_isC hrec1 (hno _) (hs1.own_isC ho)
        · have := (hmk1 l ho).1; rw [hrec1] at this; cases this
      have hrec4 : w4.heap[l]? = some (Obj.loop { r with state := .busy }) := (hs2.fr.block l (lt_of_get hrec3) hlB).trans hrec3
      have hend := run_endRound (P := C.P) jump hrec4
      refine ⟨_, hend, ?_, World.putObj_heap_same (lt_of_get hrec4)⟩
      have hoff4 : ∀ b, IsC w4 b → (w4.putObj l (.loop { r with state := if jump.isNone then .ready else .done, pending := jump })).heap[b]? = w4.heap[b]? := off_put hrec4 (hno _)
      have hPB : ∀ b, CB.Pm b → W.heap.size ≤ b ∨ (Own β' (iH i) b ∨ b = l) := by
        rintro b (hb | hb)
        · exact (hm1 b hb).1.imp id .inl
        · exact (hmk1 b hb).2.imp id .inl
      have hz : W.heap.size ≤ w3.heap.size := by rw [hz3]; exact hfr1.size
      refine hs2.conv (C' := { CR C a l β' (iH i) O W with Pm := fun b => Own β' (iH i) b ∨ b = l }) (fun x u hr => hr.off hoff4) (fun b hb => hoff4 b (hs2.own_isC hb)) ⟨fun d hd => by simp at hd, List.nodup_nil, fun q hq => ?_, fun _ _ hb => (by cases hb)⟩ h.size (fun _ => .unk _) (fun b hb => ?_) ?_ hG.st.Flt ⟨hs2.sv.1, fun j f gg hf hgg i => (hs2.sv.2 j f gg hf hgg i).off hoff4⟩ hs2.yy
      · simp only [CR, Option.some.injEq] at hq
        subst hq
        exact ⟨⟨_, World.putObj_heap_same (lt_of_get hrec4)⟩, (hs2.defers.rd _ rfl).2⟩
      · obtain ⟨p, hp, o, e, hb⟩ := hb
        have hmm := hs2.mine p hp b o e hb
        refine ⟨?_, hmm.2⟩
        rcases hmm.1 with h1 | h1
        · exact .inl (Nat.le_trans hz h1)
        · exact hPB b h1
      · have f3 : Fr (fun b => Own β' (iH i) b ∨ b = l) W w3 := by
          rw [← hw3]
          exact (hfr1.wider (fun _ _ h => .inl h)).put hrec1 (hno _) (.inr (.inr rfl))
        exact (f3.comp hs2.fr hPB).put hrec4 (hno _) (.inr (.inr rfl))
    have hB := hrec (some l) (· = CB) (roundPost C.P l (fun e w' => ∃ b X', e = .returned (.bool b) ∧ (if b then ∃ β', GR C a l mk w.heap.size (S (i + 1)) r X' O w' β' else ∃ s2 β', (s2.x.sv ≠ [] ∧ Q (rest s.n s.x.y s2)) ∧ GR C a l mk w.heap.size (hid s.n s2) rdone X' O w' β') ∧
      (∀ b, X' b → X b ∨ W.heap.size ≤ b) ∧ (∀ b, X' b → b < w'.heap.size) ∧ Fr X W w') .ret) (fun s2 => s2.x.sv ≠ [] ∧ Q (rest s.n s.x.y s2)) (GoodC.one (C := CB) rfl rfl) (fun s2 a3 w4 hq hs => by
        obtain ⟨_, rfl, β2, hs2⟩ := hs
        obtain ⟨w5, hend, hst5, hrec5⟩ := fin s2 β2 a3 w4 (some .ret) hs2
        obtain ⟨X', hG', hX', hfr'⟩ := hG.step hst5 hrec5
        exact ⟨_, w5, hend, false, X', rfl, ⟨s2, β2, hq, hG'⟩, hX', hG'.Xlt, hfr'⟩) _ _ _ _ hbod ⟨CB, rfl, β1, hsB⟩
    simp only [Kont] at hB
    refine Code.wpIn_mono (fun e a3 w4 he => ?_) hB
    cases e with
    | normal =>
      obtain ⟨s2, ⟨_, rfl, β2, hs2⟩, hle⟩ := he
      obtain ⟨w5, hend, hst5, hrec5⟩ := fin s2 β2 a3 w4 none hs2
      obtain ⟨β3, hst6⟩ := hle _ _ _ ⟨β2, hst5⟩
      have her : ({ r with state := if (none : Option Code).isNone then .ready else .done, pending := none } : Loop) = r := by
        cases r; simp only at hr1 hr2; subst hr1; subst hr2; rfl
      rw [her] at hrec5
      obtain ⟨X', hG', hX', hfr'⟩ := hG.step hst6 hrec5
      exact ⟨_, w5, hend, true, X', rfl, ⟨β3, hG'⟩, hX', hG'.Xlt, hfr'⟩
    | ret => exact he
    | _ => exact he.elim
  · exact ⟨hcl1, fun q s' u hs hu => by
      have h1 := (hcR q s' u hs hu).closed (hcl _ (List.mem_of_getElem? hs)) B0
      have h2 : RS (fun b => XOf C.F β (dropN ns s.h) b ∨ w.heap.size ≤ b) B0 w1 s' u :=
        h1.mono ⟨fun b h3 h4 => h3.resolve_left h4, fun _ _ h => h, ext.size, fun b hb _ => ext.block b hb, fun _ _ _ h => ext.shape h⟩
      refine h2.addX fun b hb => ?_
      rcases hb with hb | hb | hb | ⟨d, hd, e⟩
      · exact .inl (.inl (.inl hb))
      · rcases (hm3 b hb).1 with h3 | h3
        · exact .inl (.inr (Nat.le_trans ext.size h3))
        · exact .inl (.inl (.inr h3))
      · subst hb; exact .inl (.inr hle)
      · obtain ⟨D, h3, h4, _⟩ := hbk.marks d hd
        rw [e] at h3; simp at h3; subst h3
        exact .inr (not_isC h4 (fun _ _ _ => by simp))⟩
  · -- behind it
    have finish : ∀ (S' : AState) (rr : Loop) (X O : Nat → Prop) (W : World) (β' : Bt), GR C a l mk w.heap.size S' rr X O W β' → S'.x.sv ≠ [] →
        StR C (rest s.n s.x.y S') β' { a with defers := mk ++ a.defers } (W.putObj l (.loop { rr with state := .exhausted })) := by
      intro S' rr X O W β' hG hne
      have hno : ∀ c t q, Obj.loop rr ≠ .cells c t q := fun _ _ _ => by simp
      have hoff : ∀ b, IsC W b → (W.putObj l (.loop { rr with state := .exhausted })).heap[b]? = W.heap[b]? := off_put hG.rcd hno
      have hoth : ∀ b, b ≠ l → (W.putObj l (.loop { rr with state := .exhausted })).heap[b]? = W.heap[b]? := fun b hb => World.putObj_heap_other hb
      have hv : ∀ x u, RS (XOf (CR C a l β' S'.h O W).F β' S'.h) β' W x u → RS (XOf C.F β' S'.h) β' (W.putObj l (.loop { rr with state := .exhausted })) x u := fun x u hr =>
        (hr.anti (X' := XOf C.F β' S'.h) fun b hb => hb.imp .inl id).off hoff
      refine hG.st.conv (C' := C) (y' := s.x.y) hv (fun b hb => hoff b (hG.st.own_isC hb)) ⟨fun d hd => ?_, hG.bk.nd, fun q hq => ?_, fun b l hb => absurd hb (hG.nomp b l)⟩ h.size (fun j => ?_) (fun b hb => ⟨hG.mine b hb, fun hF => ?_⟩) ?_ h.Flt ?_ h.yy
      · obtain ⟨D, h1, h2, h3⟩ := hG.bk.marks d hd
        exact ⟨D, h1, (hoth D (fun e => by subst e; rw [hG.rcd] at h2; cases h2)).trans h2, h3⟩
      · obtain ⟨⟨r', hr'⟩, hF⟩ := hG.bk.rd q hq
        exact ⟨⟨r', (hoth q (fun e => by have := hG.hB.2.2 q hq; have := hG.hB.2.1; omega)).trans hr'⟩, hF⟩
      · cases hsv : S'.x.sv with
        | nil => exact absurd hsv hne
        | cons f rs =>
          have := hG.st.sv.2 0 f (fun i => a.tmps.getD i undef) (by rw [hsv]; rfl) rfl j
          exact hv _ _ this
      · obtain ⟨p, hp, o, e, hb⟩ := hb
        exact (hG.st.mine p hp b o e hb).2 (.inl hF)
      · exact hG.fr.put hG.rcd hno (.inl (Nat.le_trans hG.hB.1 hG.hB.2.1))
      · cases hsv : S'.x.sv with
        | nil => exact absurd hsv hne
        | cons f rs =>
          have h1 := hG.st.sv.1
          rw [hsv] at h1
          simp [CR] at h1
          refine ⟨h1, fun j f' gg hf hgg i => hv _ _ (hG.st.sv.2 (j + 1) f' gg (by rw [hsv]; exact hf) hgg i)⟩
    rintro e W2 ⟨⟨v, rfl⟩, i, X, O, hh⟩
    rcases hh with ⟨rfl, β', hG⟩ | ⟨s2, β', hq, hG⟩
    · have hb : r.state ≠ .busy := by rw [hr1]; simp
      refine ⟨_, _, run_endLoop hG.rcd hb, ?_⟩
      have := finish _ _ _ _ _ _ hG (by simp [S])
      rw [hr2] at this ⊢
      exact hrec ro Cs Fin Q hg hQ k _ _ _ hk ⟨C, hC, β', this⟩
    · refine ⟨_, _, run_endLoop hG.rcd (by simp [rdone]), ?_⟩
      have := finish _ _ _ _ _ _ hG hq.1
      exact wpIn_ret (hQ _ _ _ hq.2 ⟨C, hC, β', this⟩)
end Go.Eng

set_option linter.unusedSimpArgs false
set_option linter.unusedVariables false
namespace Go.Eng
open Go Go.RowKit

theorem iK_ro (e : Nat) (l : List (List AV)) (f : Nat → List (List AV) → Prop) (g : Nat → Nat → Nat → Prop) (h : Nat → Nat → Prop) : iK (.ro e l) f g h = f e l := rfl
theorem iK_sl (n i m : Nat) (f : Nat → List (List AV) → Prop) (g : Nat → Nat → Nat → Prop) (h : Nat → Nat → Prop) : iK (.sl n i m) f g h = g n i m := rfl

def ixE (P : Program) (t : TypeId) (x : AV) (y : AV) (K : AV → Prop) [Tg K] : Prop :=
  match x with
  | .g l => optK (asI y) fun q => indexE P K t q.2 l
  | .v (.string s) => optK (asI y) fun q => P.underlying t = some .string ∧ 0 ≤ q.2 ∧ optK (s[q.2.toNat]?) fun b => force (AV.v (.int .u8 b.toNat)) K
  | _ => False
theorem ixE_s (P : Program) (t : TypeId) (s : ByteArray) (y : AV) (K : AV → Prop) : ixE P t (.v (.string s)) y K = optK (asI y) fun q => P.underlying t = some .string ∧ 0 ≤ q.2 ∧ optK (s[q.2.toNat]?) fun b => force (AV.v (.int .u8 b.toNat)) K := rfl
theorem qE_index (P : Program) (ρ : Operand → AV) (H : Nat → Option Blk) (K : AV → Prop) (t : TypeId) (x ix : Operand) : qev P ρ H (.index t x ix) K = ixE P t (ρ x) (ρ ix) K := by
  cases hx : ρ x with
  | g l => rw [qE_index_g P ρ H K t x ix l hx]; rfl
  | v a => cases a with
    | string s =>
      simp only [qev, hx, ixE, optK, force]
      cases asI (ρ ix) with
      | none => rfl
      | some q =>
        obtain ⟨k, i⟩ := q
        simp only
        cases s[i.toNat]? <;> simp
    | _ => simp only [qev, hx, ixE]; cases asI (ρ ix) <;> rfl
  | _ => simp only [qev, hx, ixE]; cases asI (ρ ix) <;> rfl

/-- A call whose arguments are closed values. -/
theorem AtFn.pure0 {P : Program} {rec : List It → (AState → Prop) → AState → Prop} {o : Oper} {f : FuncId} {as : List AV} {k : List It} {Q : AState → Prop} {s : AState} {R : AV}
    (hfun : PFun P f as R) (hk : (∀ a ∈ as, Cl a) ∧ force (putA s o.dst R) fun s' => rec k Q s') : AtFn P rec o f as k Q s := by
  obtain ⟨hcl, hk⟩ := hk
  rintro ⟨fo, xs, ats, caps, ho, hf, rfl⟩ ro Cs next E hg hnext a w ⟨C, hC, β, h⟩
  have hP := hg.prog C hC
  subst hP
  refine ⟨fun _ _ => trivial, ?_⟩
  rw [Oper.semAt_eq _ _ _ (fun c hc => by rw [ho] at hc; cases hc)]
  obtain ⟨⟨fn, hfn, hname, hbody⟩, hcall⟩ := hfun
  have hfr := h.read fo
  rw [hf] at hfr
  generalize hv : a.eval fo = va at hfr
  cases hfr with
  | fn hl hR =>
    rename_i vs
    obtain ⟨ha1, ha2⟩ := args_get (fun x => h.read x) xs
    have hrun : (execOp a.eval o).run C.P w = .ok (.enter f (xs.map a.eval ++ vs)) w := by
      obtain ⟨_, op, _, _, _, _⟩ := o
      simp only at ho; subst ho
      have hnb : ¬ fn.body = none := by cases hb : fn.body <;> simp_all
      have hne : ¬ fn.name = "runtime.NumGoroutine" := by simpa using hname
      simp [execOp, resolve, hv, Deferred.ofValue, invoke, callFunc, hfn, hne, hnb]
    rw [hrun]
    have hX : ∀ b, XOf C.F β s.h b → b < w.heap.size := by
      rintro b (hb | ⟨p, hp, o', e, hb⟩)
      · exact Nat.lt_of_lt_of_le (h.Flt b hb) h.fr.size
      · exact h.lt_size hp hb
    refine ⟨wd_depth, callsIn_wd ?_⟩
    refine Calls.mono (hcall _ w (xs.map a.eval ++ vs) hX (by simp at ha1 hl ⊢; omega) (fun q sv u hsv hu => ?_)) ?_
    · have hmem : sv ∈ xs.toList.map (evA s.t) ++ caps := List.mem_of_getElem? hsv
      have hrs : RS (XOf C.F β s.h) β w sv u := by
        by_cases hq : q < (xs.toList.map (evA s.t)).length
        · rw [List.getElem?_append_left hq] at hsv
          rw [Array.getElem?_append_left (by omega)] at hu
          exact ha2 q sv u hsv hu
        · rw [List.getElem?_append_right (by omega)] at hsv
          rw [Array.getElem?_append_right (by omega)] at hu
          rw [← ha1] at hu
          exact hR _ sv u hsv hu
      exact hrs.closed (hcl _ hmem) B0
    · rintro e w' ⟨v, rfl, hRv, hext⟩
      have hRv' : RS (XOf C.F β s.h) β w' R v := hRv.mono ⟨fun _ h h' => absurd h h', (fun _ _ h => by cases h), Nat.le_refl _, fun _ _ _ => rfl, fun _ _ _ h => h⟩
      exact hnext _ _ _ hk ⟨C, hC, β, (h.ext hext).put hRv' o.dst⟩
end Go.Eng

set_option linter.unusedSimpArgs false
set_option linter.unusedVariables false
namespace Go.Eng
open Go Go.RowKit

section
variable {P : Program} {d : Nat} {xs ys : Array Value} {f : Field} {fs : List Field} {a b : Value} {r s : Bool} {w : World}
end

/-- What is asked of a type: its values are compared so. -/
theorem EqK.of {P : Program} {t : TypeId} {n : Nat} (hg : P.eqGuardType P.depth t = false)
    (h : ∀ (xs ys : List Int), xs.length = n → ys.length = n → ∀ w, (Op.equal t (aggI xs) (aggI ys)).run P w = .ok (decide (xs = ys)) w) : EqK P t n := by
  intro xs ys hx hy w xo yo
  have := h xs ys hx hy w
  constructor
  · simp [eqGuard, binOp, hg, this]
  · simp [eqGuard, binOp, hg, this]
end Go.Eng
