/- The engine, part R: rewrite rules for drawn regions; weakening with new names, for loops. -/
import Derived.Test.YtdhdopmjaibggaaEngQ
set_option linter.unusedSimpArgs false
set_option linter.unusedVariables false
namespace Go.Eng
open Go Go.RowKit

/-! ### The walk of a drawn region by rewriting -/
section
variable (P : Program) (A : List (List Nat × List Nat)) (all : Array Oper) (s0 : AState) (F : AState → Prop) (r : List Oper) (i : Nat) (s : AState)
theorem vcQ_congr {P : Program} {A : List (List Nat × List Nat)} {all : Array Oper} {s0 : AState} {F : AState → Prop} {L : List Oper} {i : Nat} {s : AState} : vcQ P A all s0 F L i s = vcQ P A all s0 F L i s := rfl
def onQ (d : Option Nat) (av : AV) : Prop := force (putA s d av) fun s' => vcQ P A all s0 F r (i + 1) s'
theorem onQ_eq (d : Option Nat) (av : AV) : onQ P A all s0 F r i s d av = force (putA s d av) fun s' => force (i + 1) fun j => vcQ P A all s0 F r j s' := rfl
theorem onQ_congr {P : Program} {A : List (List Nat × List Nat)} {all : Array Oper} {s0 : AState} {F : AState → Prop} {r : List Oper} {i : Nat} {s : AState} {d : Option Nat} {av : AV} : onQ P A all s0 F r i s d av = onQ P A all s0 F r i s d av := rfl
def onQB (d : Option Nat) (av : AV) (b : Blk) : Prop := force (addB s (s0.k + i) (some b)) fun s' => onQ P A all s0 F r i s' d av
theorem onQB_eq (d : Option Nat) (av : AV) (b : Blk) : onQB P A all s0 F r i s d av b = force (addB s (s0.k + i) (some b)) fun s' => onQ P A all s0 F r i s' d av := rfl
theorem onQB_congr {P : Program} {A : List (List Nat × List Nat)} {all : Array Oper} {s0 : AState} {F : AState → Prop} {r : List Oper} {i : Nat} {s : AState} {d : Option Nat} {av : AV} {b : Blk} : onQB P A all s0 F r i s d av b = onQB P A all s0 F r i s d av b := rfl
theorem DrawK_eq (rec : List It → (AState → Prop) → AState → Prop) (l : List Oper) (ops : Array Oper) (k : List It) (Q : AState → Prop) (n kk : Nat) (t : Nat → AV) (h : List (Nat × Blk)) (x : Aux) : DrawK rec l ops k Q ⟨n, t, h, kk, x⟩ = rec (.o l ops :: k) Q ⟨n, t, h, kk, x⟩ := rfl
theorem tailT_leaf (rec : List It → (AState → Prop) → AState → Prop) (ops : Array Oper) (k : List It) (Q : AState → Prop) (n kk : Nat) (t : Nat → AV) (h : List (Nat × Blk)) (x : Aux) : tailT P ops rec k Q .leaf ⟨n, t, h, kk, x⟩ = rec (.o [] ops :: k) Q ⟨n, t, h, kk, x⟩ := rfl
theorem tailT_step (rec : List It → (AState → Prop) → AState → Prop) (ops : Array Oper) (k : List It) (Q : AState → Prop) (i : Nat) (tt : TT) (n kk : Nat) (t : Nat → AV) (h : List (Nat × Blk)) (x : Aux) : tailT P ops rec k Q (.step i tt) ⟨n, t, h, kk, x⟩ = optK ops[i]? fun o => opK P idR o [] (tailT P ops rec k Q tt) ⟨n, t, h, kk, x⟩ := by
  simp only [tailT, optK]; cases ops[i]? <;> rfl
theorem tailT_both (rec : List It → (AState → Prop) → AState → Prop) (ops : Array Oper) (k : List It) (Q : AState → Prop) (a b : TT) (n kk : Nat) (t : Nat → AV) (h : List (Nat × Blk)) (x : Aux) : tailT P ops rec k Q (.both a b) ⟨n, t, h, kk, x⟩ = (tailT P ops rec k Q a ⟨n, t, h, kk, x⟩ ∧ tailT P ops rec k Q b ⟨n, t, h, kk, x⟩) := rfl
theorem idR_eq (k : List It) (Q : AState → Prop) (s : AState) : idR k Q s = Q s := rfl
theorem addB_some (s : AState) (n : Nat) (b : Blk) : addB s n (some b) = { s with h := (n, b) :: s.h } := rfl
theorem vcQ_nil : vcQ P A all s0 F [] i s = F s := rfl
/-- One operation of it. -/
def oneQ (o : Oper) : Prop := qopK P (evA s.t) (maskH s0 s A i) o (s0.k + i) fun av nb => vcQ P A all s0 F r (i + 1) (putA (addB s (s0.k + i) nb) o.dst av)
theorem oneQ_congr {P : Program} {A : List (List Nat × List Nat)} {all : Array Oper} {s0 : AState} {F : AState → Prop} {r : List Oper} {i : Nat} {s : AState} {o : Oper} : oneQ P A all s0 F r i s o = oneQ P A all s0 F r i s o := rfl
variable (d : Option Nat) (ty : TypeId) (pos : String) (af : Array Edge) (g : Option (Nat × Bool))
theorem vcQ_cons (op : Op) : vcQ P A all s0 F (⟨d, op, ty, pos, af, none⟩ :: r) i s = oneQ P A all s0 F r i s ⟨d, op, ty, pos, af, none⟩ := rfl
theorem vcQ_guard (op : Op) (j : Nat) (want : Bool) : vcQ P A all s0 F (⟨d, op, ty, pos, af, some (j, want)⟩ :: r) i s = optK ((all[j]?).bind (·.dst)) fun e => gdK (s.t e) want
    (force (⟨s.n, upd s.t e (.v (.bool want)), s.h, s.k, s.x⟩ : AState) fun s => oneQ P A all s0 F r i s ⟨d, op, ty, pos, af, some (j, want)⟩) (force (⟨s.n, upd s.t e (.v (.bool (!want))), s.h, s.k, s.x⟩ : AState) fun s => onQ P A all s0 F r i s d un)
    (onQ P A all s0 F r i s d un) := by
  simp only [vcQ, guardA, optK, gdK, brK, oneQ, onQ, force]
  cases (all[j]?).bind (·.dst) with
  | none => rfl
  | some e =>
    simp only
    cases hx : s.t e with
    | v a => cases a with
      | bool b =>
        obtain ⟨n', t', h', k', x'⟩ := s
        simp only at hx
        cases b <;> cases want <;> simp [upd_same t' e _ hx]
      | tuple l =>
        obtain ⟨l⟩ := l
        cases l with
        | nil => cases want <;> simp
        | cons _ _ => rfl
      | _ => rfl
    | _ => rfl
theorem maskH_eq (k : Nat) : maskH s0 s A i k = if (A.getD i ([], [])).2.contains k then none else if k < s0.k then find s0.h k else if (A.getD i ([], [])).1.contains (k - s0.k) then find s.h k else none := rfl

theorem Q_move (x : Operand) : oneQ P A all s0 F r i s ⟨d, .move x, ty, pos, af, g⟩ = qev P (evA s.t) (maskH s0 s A i) (.move x) (onQ P A all s0 F r i s d) := rfl
theorem Q_assign (x : Operand) : oneQ P A all s0 F r i s ⟨d, .assign x, ty, pos, af, g⟩ = qev P (evA s.t) (maskH s0 s A i) (.assign x) (onQ P A all s0 F r i s d) := rfl
theorem Q_pick (x y z : Operand) : oneQ P A all s0 F r i s ⟨d, .pick x y z, ty, pos, af, g⟩ = qev P (evA s.t) (maskH s0 s A i) (.pick x y z) (onQ P A all s0 F r i s d) := rfl
theorem Q_load (t : TypeId) (x : Operand) : oneQ P A all s0 F r i s ⟨d, .load t x, ty, pos, af, g⟩ = qev P (evA s.t) (maskH s0 s A i) (.load t x) (onQ P A all s0 F r i s d) := rfl
theorem Q_fieldAddr (t : TypeId) (x : Operand) (f : Nat) : oneQ P A all s0 F r i s ⟨d, .fieldAddr t x f, ty, pos, af, g⟩ = qev P (evA s.t) (maskH s0 s A i) (.fieldAddr t x f) (onQ P A all s0 F r i s d) := rfl
theorem Q_indexAddr (t : TypeId) (x y : Operand) : oneQ P A all s0 F r i s ⟨d, .indexAddr t x y, ty, pos, af, g⟩ = qev P (evA s.t) (maskH s0 s A i) (.indexAddr t x y) (onQ P A all s0 F r i s d) := rfl
theorem Q_field (t : TypeId) (x : Operand) (f : Nat) : oneQ P A all s0 F r i s ⟨d, .field t x f, ty, pos, af, g⟩ = qev P (evA s.t) (maskH s0 s A i) (.field t x f) (onQ P A all s0 F r i s d) := rfl
theorem Q_index (t : TypeId) (x y : Operand) : oneQ P A all s0 F r i s ⟨d, .index t x y, ty, pos, af, g⟩ = qev P (evA s.t) (maskH s0 s A i) (.index t x y) (onQ P A all s0 F r i s d) := rfl
theorem Q_extract (x : Operand) (q : Nat) : oneQ P A all s0 F r i s ⟨d, .extract x q, ty, pos, af, g⟩ = qev P (evA s.t) (maskH s0 s A i) (.extract x q) (onQ P A all s0 F r i s d) := rfl
theorem Q_binOp (o : BinOp) (t : TypeId) (x y : Operand) (u : TypeId) : oneQ P A all s0 F r i s ⟨d, .binOp o t x y u, ty, pos, af, g⟩ = qev P (evA s.t) (maskH s0 s A i) (.binOp o t x y u) (onQ P A all s0 F r i s d) := rfl
theorem Q_unOp (o : UnOp) (t : TypeId) (x : Operand) : oneQ P A all s0 F r i s ⟨d, .unOp o t x, ty, pos, af, g⟩ = qev P (evA s.t) (maskH s0 s A i) (.unOp o t x) (onQ P A all s0 F r i s d) := rfl
theorem Q_convert (t u : TypeId) (x : Operand) : oneQ P A all s0 F r i s ⟨d, .convert t u x, ty, pos, af, g⟩ = qev P (evA s.t) (maskH s0 s A i) (.convert t u x) (onQ P A all s0 F r i s d) := rfl
theorem Q_makeFunc (f : Fn) (x y : Array Operand) : oneQ P A all s0 F r i s ⟨d, .makeFunc f x y, ty, pos, af, g⟩ = qev P (evA s.t) (maskH s0 s A i) (.makeFunc f x y) (onQ P A all s0 F r i s d) := rfl
theorem Q_nilCheck (x : Operand) : oneQ P A all s0 F r i s ⟨d, .nilCheck x, ty, pos, af, g⟩ = qev P (evA s.t) (maskH s0 s A i) (.nilCheck x) (onQ P A all s0 F r i s d) := rfl
theorem Q_slice (t : TypeId) (x : Operand) (lo hi mx : Option Operand) : oneQ P A all s0 F r i s ⟨d, .slice t x lo hi mx, ty, pos, af, g⟩ = qev P (evA s.t) (maskH s0 s A i) (.slice t x lo hi mx) (onQ P A all s0 F r i s d) := rfl
theorem Q_build (t : TypeId) (x : Array (Nat × Operand)) : oneQ P A all s0 F r i s ⟨d, .build t x, ty, pos, af, g⟩ = qev P (evA s.t) (maskH s0 s A i) (.build t x) (onQ P A all s0 F r i s d) := rfl
theorem Q_len (xs : Array Operand) (ts : Array TypeId) : oneQ P A all s0 F r i s ⟨d, .call ⟨.builtin .len, xs, ts⟩, ty, pos, af, g⟩ = qev P (evA s.t) (maskH s0 s A i) (.call ⟨.builtin .len, xs, ts⟩) (onQ P A all s0 F r i s d) := rfl
theorem Q_max (xs : Array Operand) (ts : Array TypeId) : oneQ P A all s0 F r i s ⟨d, .call ⟨.builtin .max, xs, ts⟩, ty, pos, af, g⟩ = qev P (evA s.t) (maskH s0 s A i) (.call ⟨.builtin .max, xs, ts⟩) (onQ P A all s0 F r i s d) := rfl
theorem Q_min (xs : Array Operand) (ts : Array TypeId) : oneQ P A all s0 F r i s ⟨d, .call ⟨.builtin .min, xs, ts⟩, ty, pos, af, g⟩ = qev P (evA s.t) (maskH s0 s A i) (.call ⟨.builtin .min, xs, ts⟩) (onQ P A all s0 F r i s d) := rfl
theorem Q_box (t : TypeId) (x : Operand) : oneQ P A all s0 F r i s ⟨d, .box t x, ty, pos, af, g⟩ = optK (cellsA (evA s.t x)) fun l => force (s0.k + i) fun n => onQB P A all s0 F r i s d (.ptr n 0 0) ⟨l.length, [l]⟩ := by
  simp only [oneQ, qopK, nev, optK, onQB, onQ, force]
  cases cellsA (evA s.t x) <;> rfl
theorem Q_alloc (t : TypeId) : oneQ P A all s0 F r i s ⟨d, .alloc t, ty, pos, af, g⟩ = optK (zeT P t) fun z => force (z.map AV.v) fun l => force (s0.k + i) fun n => onQB P A all s0 F r i s d (.ptr n 0 0) ⟨l.length, [l]⟩ := by
  simp only [oneQ, qopK, nev, optK, onQB, onQ, force, List.length_map]
  cases zeT P t <;> rfl
theorem roB_nil (z : Nat) : roB ⟨z, []⟩ = .ez := rfl
theorem roB_cons (z : Nat) (x : List AV) (l : List (List AV)) : roB ⟨z, x :: l⟩ = .ro z (x :: l) := rfl
theorem Q_buildSlice (t : TypeId) (len : Nat) (parts : Array (Nat × Operand)) : oneQ P A all s0 F r i s ⟨d, .buildSlice t len parts, ty, pos, af, g⟩ =
    optK (slT P t) fun e => force (szT P e) fun z => (0 < z ∧ len * z ≤ 16777216 ∧ (zeT P e).isSome = true ∧ parts.toList.map (·.1) = List.range len) ∧
      force (parts.toList.map fun p => evA s.t p.2) fun xs => optK (chunksA z xs) fun cs => force (roB ⟨z, cs⟩) fun v => onQ P A all s0 F r i s d v := by
  simp only [oneQ, qopK, nev, optK, onQ, force, addB]
  cases slT P t with
  | none => rfl
  | some e => simp only; cases chunksA (szT P e) (parts.toList.map fun p => evA s.t p.2) <;> simp
/-- On behind an append to what is empty. -/
def onQA (z : Nat) (l : List (List AV)) : Prop := force (s0.k + i) fun n => force l.length fun m => onQB P A all s0 F r i s d (.sl n 0 m) ⟨z, l⟩
theorem onQA_eq (z : Nat) (l : List (List AV)) : onQA P A all s0 F r i s d z l = force (s0.k + i) fun n => force l.length fun m => onQB P A all s0 F r i s d (.sl n 0 m) ⟨z, l⟩ := rfl
def dstQ (x : AV) (K : Prop) [Tg K] : Prop := match x with | .v (.slice none 0 0) => K | .ez => K | _ => False
theorem dstQ_nil (K : Prop) : dstQ (.v (.slice none 0 0)) K = K := rfl
theorem dstQ_ez (K : Prop) : dstQ .ez K = K := rfl
theorem Q_append (a b : Operand) (t u : TypeId) : oneQ P A all s0 F r i s ⟨d, .call ⟨.builtin .append, #[a, b], #[t, u]⟩, ty, pos, af, g⟩ =
    optK (slT P t) fun e => ikT P u = none ∧ force (szT P e) fun z => (0 < z ∧ byT P e ≤ 64 ∧ optK (zeT P e) fun w => w.length = z) ∧ (P.underlying u).isSome = true ∧
      force (evA s.t a) fun x => force (evA s.t b) fun y => dstQ x (srcE (maskH s0 s A i) z y fun sl =>
        sl.length ≤ 1099511627776 ∧ (∀ c ∈ sl, ∀ q ∈ c, oneA q = true) ∧ onQA P A all s0 F r i s d z sl) := by
  simp only [oneQ, qopK, apK, optK, onQA, onQB, onQ, force, srcE, dstK, dstQ, addB]
  cases slT P t with
  | none => rfl
  | some e =>
    simp only
    cases ikT P u with
    | some _ => simp
    | none =>
      simp only [true_and]
      cases zeT P e with
      | none => simp
      | some w =>
        simp only
        cases evA s.t a with
        | v y => cases y with
          | slice p q r' => cases p with
            | none => cases q with
              | zero => cases r' with
                | zero => simp [Nat.zero_add]
                | succ _ => rfl
              | succ _ => rfl
            | some _ => rfl
          | _ => rfl
        | ez => simp [Nat.zero_add]
        | sl n' i' len' =>
          simp only
          cases maskH s0 s A i n' with
          | none => rfl
          | some k =>
            simp only [and_false, iff_false, not_and]
            apply propext
            simp only [iff_false]
            rintro ⟨_, _, _, _, h⟩
            obtain ⟨l, ⟨_, _, hf, _⟩, _⟩ := srcK_det h
            cases hf
        | _ => rfl
/-- A call in a drawn region. -/
def QFn (f : FuncId) (as : List AV) (K : AV → Prop) [Tg K] : Prop := ∃ R, ((∀ a ∈ as, Cl a) ∧ PFun P f as R) ∧ K R
theorem QFn_congr {P : Program} {f : FuncId} {as : List AV} {K : AV → Prop} : QFn P f as K = QFn P f as K := rfl
theorem Q_call (f : Operand) (xs : Array Operand) (ts : Array TypeId) : oneQ P A all s0 F r i s ⟨d, .call ⟨.value f, xs, ts⟩, ty, pos, af, g⟩ =
    fnK (evA s.t f) fun f caps => force (xs.toList.map (evA s.t) ++ caps) fun as => QFn P f as (onQ P A all s0 F r i s d) := by
  simp only [oneQ, qopK, fnK, force, QFn, onQ, addB]
  cases evA s.t f <;> rfl
theorem QFn.use {f : FuncId} {as : List AV} {K : AV → Prop} {R : AV} (hfun : PFun P f as R) (hcl : ∀ a ∈ as, Cl a) (hk : K R) : QFn P f as K := ⟨R, ⟨hcl, hfun⟩, hk⟩
theorem take_suc {α : Type} (n : Nat) (x : α) (l : List α) : (x :: l).take (n + 1) = x :: l.take n := rfl
end

/-! ### Weakening -/
inductive Ren (σ : Nat → Nat) (ns : List Nat) : AV → AV → Prop
  | cl {a : AV} (h : Cl a) : Ren σ ns a a
  | unk {a : AV} : Ren σ ns a .unk
  | ptr {n i j : Nat} (h : n ∈ ns) : Ren σ ns (.ptr (σ n) i j) (.ptr n i j)
  | sl {n i j : Nat} (h : n ∈ ns) : Ren σ ns (.sl (σ n) i j) (.sl n i j)
  | g {l l' : List AV} (hl : l.length = l'.length) (h : ∀ (k : Nat) (a b : AV), l[k]? = some a → l'[k]? = some b → Ren σ ns a b) : Ren σ ns (.g l) (.g l')
  | fn {f : Nat} {l l' : List AV} (hl : l.length = l'.length) (h : ∀ (k : Nat) (a b : AV), l[k]? = some a → l'[k]? = some b → Ren σ ns a b) : Ren σ ns (.fn f l) (.fn f l')
  | nil {n i : Nat} {a : Option Addr} : Ren σ ns (.v (.slice a 0 0)) (.sl n i 0)

theorem RS.ren {X X' : Nat → Prop} {β β' : Bt} {w : World} {σ : Nat → Nat} {ns : List Nat} (hX : ∀ b, X' b → X b) (hβ : ∀ n ∈ ns, β' n = β (σ n)) {a a' : AV} (h : Ren σ ns a a') : ∀ {u : Value}, RS X β w a u → RS X' β' w a' u := by
  induction h with
  | cl h => intro u hr; exact (hr.anti hX).closed h β'
  | unk => intro u _; exact .unk _
  | nil => intro u hr; cases hr; exact .slz
  | ptr h =>
    intro u hr
    cases hr with
    | ptr hb => exact .ptr (by rw [hβ _ h]; exact hb)
  | sl h =>
    intro u hr
    cases hr with
    | sl hb hl hs hc => exact .sl (by rw [hβ _ h]; exact hb) hl hs hc
    | slz => exact .slz
  | g hl _ ih =>
    intro u hr
    cases hr with
    | g hl' hR =>
      refine .g (by omega) fun k s u hs hu => ?_
      have hk := (List.getElem?_eq_some_iff.1 hs).1
      exact ih k _ s (List.getElem?_eq_getElem (by omega)) hs (hR k _ u (List.getElem?_eq_getElem (by omega)) hu)
  | fn hl _ ih =>
    intro u hr
    cases hr with
    | fn hl' hR =>
      refine .fn (by omega) fun k s u hs hu => ?_
      have hk := (List.getElem?_eq_some_iff.1 hs).1
      exact ih k _ s (List.getElem?_eq_getElem (by omega)) hs (hR k _ u (List.getElem?_eq_getElem (by omega)) hu)

/-- The contents of a block, renamed. -/
def RenL (σ : Nat → Nat) (ns : List Nat) (l l' : List (List AV)) : Prop :=
  (l = l' ∧ ∀ c ∈ l, ∀ s ∈ c, Cl s) ∨
  (l.length = l'.length ∧ ∀ (i : Nat) (c c' : List AV), l[i]? = some c → l'[i]? = some c' → c.length = c'.length ∧ ∀ (j : Nat) (a b : AV), c[j]? = some a → c'[j]? = some b → Ren σ ns a b)

/-- The saved slots, renamed. -/
def RenS (σ : Nat → Nat) (ns : List Nat) (l l' : List (Nat → AV)) : Prop :=
  l.length = l'.length ∧ ∀ (j : Nat) (f f' : Nat → AV), l[j]? = some f → l'[j]? = some f' → ∀ i, Ren σ ns (f i) (f' i)

theorem Le.intro {n k k' : Nat} {t t' : Nat → AV} {h h' : List (Nat × Blk)} {sv sv' : List (Nat → AV)} {y : Option (Nat × List (List AV))} (σ : Nat → Nat) (ht : ∀ i, Ren σ (h'.map (·.1)) (t i) (t' i))
    (hh : ∀ p ∈ h', (∃ b, find h (σ p.1) = some b ∧ b.e = p.2.e ∧ RenL σ (h'.map (·.1)) b.l p.2.l) ∨ (p.2.l = [] ∧ k ≤ σ p.1)) (hlt : ∀ p ∈ h', p.1 < k') (hnd : (h'.map fun p => σ p.1).Nodup)
    (hsv : RenS σ (h'.map (·.1)) sv sv') : Le ⟨n, t, h, k, ⟨sv, y⟩⟩ ⟨n, t', h', k', ⟨sv', y⟩⟩ := by
  rintro C a w ⟨β, hs⟩
  refine ⟨fun q => if q ∈ h'.map (·.1) then β (σ q) else none, ?_⟩
  have hnone : ∀ n, k ≤ n → β n = none := fun n hn => by
    cases hb : β n with
    | none => rfl
    | some r => exact absurd (hs.βlt n r hb) (by simp only; omega)
  have hσ : ∀ p ∈ h', (∃ q ∈ h, q.1 = σ p.1) ∨ β (σ p.1) = none := fun p hp => by
    rcases hh p hp with ⟨b, hb, _⟩ | ⟨_, hk⟩
    · exact .inl ⟨_, find_mem hb, rfl⟩
    · exact .inr (hnone _ hk)
  have hβ : ∀ q ∈ h'.map (·.1), (fun q => if q ∈ h'.map (·.1) then β (σ q) else none) q = β (σ q) := fun q hq => by simp only; rw [if_pos hq]
  have hX : ∀ b, XOf C.F (fun q => if q ∈ h'.map (·.1) then β (σ q) else none) h' b → XOf C.F β h b := by
    rintro b (hb | ⟨p, hp, o, e, hb⟩)
    · exact .inl hb
    · rw [hβ _ (List.mem_map_of_mem hp)] at hb
      rcases hσ p hp with ⟨q, hq, hqe⟩ | hn
      · exact .inr ⟨q, hq, o, e, by rw [hqe]; exact hb⟩
      · rw [hn] at hb; cases hb
  have hnd' : (h'.map (·.1)).Nodup := by
    have : (h'.map fun p => σ p.1) = (h'.map (·.1)).map σ := by rw [List.map_map]; rfl
    rw [this] at hnd
    clear this hσ hβ hX hh ht hlt
    generalize h'.map (·.1) = l at hnd
    induction l with
    | nil => exact List.nodup_nil
    | cons x l ih =>
      simp only [List.map_cons, List.nodup_cons] at hnd ⊢
      exact ⟨fun hx => hnd.1 (List.mem_map_of_mem hx), ih hnd.2⟩
  have hinj : ∀ p ∈ h', ∀ q ∈ h', σ p.1 = σ q.1 → p.1 = q.1 := by
    clear hσ hβ hX hh ht hlt hnd' hsv
    induction h' with
    | nil => intro p hp; simp at hp
    | cons x l ih =>
      simp only [List.map_cons, List.nodup_cons] at hnd
      intro p hp q hq he
      rcases List.mem_cons.1 hp with hp1 | hp1 <;> rcases List.mem_cons.1 hq with hq1 | hq1
      · rw [hp1, hq1]
      · refine absurd ?_ hnd.1
        have := List.mem_map_of_mem (f := fun p : Nat × Blk => σ p.1) hq1
        rw [← hp1]; rw [he]; exact this
      · refine absurd ?_ hnd.1
        have := List.mem_map_of_mem (f := fun p : Nat × Blk => σ p.1) hp1
        rw [← hq1]; rw [← he]; exact this
      · exact ih hnd.2 p hp1 q hq1 he
  refine ⟨hs.defers, hs.size, fun i => (hs.tm i).ren hX hβ (ht i), fun p hp => ?_, hlt, fun q r hr => ?_, hnd', fun p hp q hq b o e o' e' h1 h2 => ?_, fun p hp b o e hb => ?_, hs.fr, hs.Flt, ⟨hsv.1.symm.trans hs.sv.1, fun j f' g hf' hg i => ?_⟩, hs.yy⟩
  · have hbp := hβ _ (List.mem_map_of_mem hp)
    rcases hh p hp with ⟨b, hb, he, hl⟩ | ⟨hl, hk⟩
    case inr => exact .inr ⟨hl, by rw [hbp]; exact hnone _ hk⟩
    rcases hs.look (σ p.1) b hb with ⟨bb, o, c, ty, h1, h2, h3, h4, h5⟩ | ⟨h1, h2⟩
    · refine .inl ⟨bb, o, c, ty, by rw [hbp, ← he]; exact h1, h2, ?_, ?_, ?_⟩
      · intro ch hch
        rcases hl with ⟨hl, _⟩ | ⟨hl, hl2⟩
        · rw [← he]; exact h3 ch (hl ▸ hch)
        · obtain ⟨i, hi⟩ := List.getElem?_of_mem hch
          have hil : i < b.l.length := by have := (List.getElem?_eq_some_iff.1 hi).1; omega
          have := (hl2 i _ ch (List.getElem?_eq_getElem hil) hi).1
          rw [← he, ← this]; exact h3 _ (List.getElem_mem hil)
      · rcases hl with ⟨hl, _⟩ | ⟨hl, _⟩
        · rw [← he, ← hl]; exact h4
        · rw [← he, ← hl]; exact h4
      · intro i j ch s' hi hj
        rcases hl with ⟨hl, hcl⟩ | ⟨hl, hl2⟩
        · obtain ⟨u, hu, hr⟩ := h5 i j ch s' (hl ▸ hi) hj
          refine ⟨u, by rw [← he]; exact hu, (hr.anti hX).closed ?_ _⟩
          exact hcl ch (hl ▸ List.mem_of_getElem? hi) s' (List.mem_of_getElem? hj)
        · have hil : i < b.l.length := by have := (List.getElem?_eq_some_iff.1 hi).1; omega
          have h6 := hl2 i _ ch (List.getElem?_eq_getElem hil) hi
          have hjl : j < b.l[i].length := by have := (List.getElem?_eq_some_iff.1 hj).1; omega
          obtain ⟨u, hu, hr⟩ := h5 i j _ _ (List.getElem?_eq_getElem hil) (List.getElem?_eq_getElem hjl)
          exact ⟨u, by rw [← he]; exact hu, hr.ren hX hβ (h6.2 j _ s' (List.getElem?_eq_getElem hjl) hj)⟩
    · refine .inr ⟨?_, by rw [hbp]; exact h2⟩
      rcases hl with ⟨hl, _⟩ | ⟨hl, _⟩
      · rw [← hl]; exact h1
      · rw [h1] at hl; exact List.eq_nil_of_length_eq_zero hl.symm
  · split at hr
    · rename_i hq
      obtain ⟨p, hp, rfl⟩ := List.mem_map.1 hq
      exact hlt p hp
    · cases hr
  · rw [if_pos (List.mem_map_of_mem hp)] at h1
    rw [if_pos (List.mem_map_of_mem hq)] at h2
    rcases hσ p hp with ⟨p', hp', hpe⟩ | hn
    case inr => rw [hn] at h1; cases h1
    rcases hσ q hq with ⟨q', hq', hqe⟩ | hn
    case inr => rw [hn] at h2; cases h2
    refine hinj p hp q hq ?_
    rw [← hpe, ← hqe]
    exact hs.inj p' hp' q' hq' b o e o' e' (by rw [hpe]; exact h1) (by rw [hqe]; exact h2)
  · rw [if_pos (List.mem_map_of_mem hp)] at hb
    rcases hσ p hp with ⟨p', hp', hpe⟩ | hn
    case inr => rw [hn] at hb; cases hb
    exact hs.mine p' hp' b o e (by rw [hpe]; exact hb)
  · have hj : j < sv.length := by rw [hsv.1]; exact (List.getElem?_eq_some_iff.1 hf').1
    exact (hs.sv.2 j _ g (List.getElem?_eq_getElem hj) hg i).ren hX hβ (hsv.2 j _ f' (List.getElem?_eq_getElem hj) hf' i)

/-- Which name stands for which. -/
def sg : List (Nat × Nat) → Nat → Nat
  | [], n => n
  | (a, b) :: r, n => if n = a then b else sg r n
theorem sg_nil (n : Nat) : sg [] n = n := rfl
theorem sg_cons (a b n : Nat) (r : List (Nat × Nat)) : sg ((a, b) :: r) n = if n = a then b else sg r n := rfl

def RenLs (σ : Nat → Nat) (ns : List Nat) : List (Nat → AV) → List (List (Nat × AV)) → Prop
  | [], [] => True
  | f :: r, L :: Ls => (∀ p ∈ L, Ren σ ns (f p.1) p.2) ∧ RenLs σ ns r Ls
  | _, _ => False

theorem ren_tl {σ : Nat → Nat} {ns : List Nat} {t : Nat → AV} : ∀ {L : List (Nat × AV)}, (∀ p ∈ L, Ren σ ns (t p.1) p.2) → ∀ i, Ren σ ns (t i) (Eng.tl L i)
  | [], _, _ => .unk
  | (d, x) :: L, h, i => by
    simp only [Eng.tl]
    split
    · rename_i e; subst e; exact h (i, x) List.mem_cons_self
    · exact ren_tl (fun q hq => h q (List.mem_cons_of_mem _ hq)) i

theorem renLs {σ : Nat → Nat} {ns : List Nat} : ∀ {sv : List (Nat → AV)} {Ls : List (List (Nat × AV))}, RenLs σ ns sv Ls → RenS σ ns sv (Ls.map Eng.tl)
  | [], [], _ => ⟨rfl, fun j f f' hf => by simp at hf⟩
  | f :: r, L :: Ls, h => by
    obtain ⟨h1, h2⟩ := renLs h.2
    refine ⟨by simp at h1 ⊢; exact h1, fun j g g' hg hg' i => ?_⟩
    match j with
    | 0 => simp at hg hg'; subst hg; subst hg'; exact ren_tl h.1 i
    | j + 1 => simp at hg hg'; obtain ⟨L', hL', rfl⟩ := hg'; exact h2 j g _ hg (by simp [hL']) i
  | _ :: _, [], h => h.elim
  | [], _ :: _, h => h.elim

/-- Down to the slots that are named. -/
theorem Le.tl {n k k' : Nat} {t : Nat → AV} {L : List (Nat × AV)} {h h' : List (Nat × Blk)} {sv : List (Nat → AV)} {Ls : List (List (Nat × AV))} {y : Option (Nat × List (List AV))} (r : List (Nat × Nat)) (ht : ∀ p ∈ L, Ren (sg r) (h'.map (·.1)) (t p.1) p.2)
    (hh : ∀ p ∈ h', ∃ b, find h (sg r p.1) = some b ∧ b.e = p.2.e ∧ RenL (sg r) (h'.map (·.1)) b.l p.2.l) (hlt : ∀ p ∈ h', p.1 < k') (hnd : (h'.map fun p => sg r p.1).Nodup) (hsv : RenLs (sg r) (h'.map (·.1)) sv Ls) :
    Le ⟨n, t, h, k, ⟨sv, y⟩⟩ ⟨n, Eng.tl L, h', k', ⟨Ls.map Eng.tl, y⟩⟩ :=
  Le.intro (sg r) (ren_tl ht) (fun p hp => .inl (hh p hp)) hlt hnd (renLs hsv)
/-- The same, where blocks that are still empty may be new. -/
theorem Le.tl0 {n k k' : Nat} {t : Nat → AV} {L : List (Nat × AV)} {h h' : List (Nat × Blk)} {sv : List (Nat → AV)} {Ls : List (List (Nat × AV))} {y : Option (Nat × List (List AV))} (r : List (Nat × Nat)) (ht : ∀ p ∈ L, Ren (sg r) (h'.map (·.1)) (t p.1) p.2)
    (hh : ∀ p ∈ h', (∃ b, find h (sg r p.1) = some b ∧ b.e = p.2.e ∧ RenL (sg r) (h'.map (·.1)) b.l p.2.l) ∨ (p.2.l = [] ∧ k ≤ sg r p.1)) (hlt : ∀ p ∈ h', p.1 < k') (hnd : (h'.map fun p => sg r p.1).Nodup) (hsv : RenLs (sg r) (h'.map (·.1)) sv Ls) :
    Le ⟨n, t, h, k, ⟨sv, y⟩⟩ ⟨n, Eng.tl L, h', k', ⟨Ls.map Eng.tl, y⟩⟩ :=
  Le.intro (sg r) (ren_tl ht) hh hlt hnd (renLs hsv)

section
variable {σ : Nat → Nat} {ns : List Nat}
theorem ren_unk {a : AV} : Ren σ ns a .unk ↔ True := ⟨fun _ => trivial, fun _ => .unk⟩
theorem ren_v {x y : Value} : Ren σ ns (.v x) (.v y) ↔ x = y := ⟨(fun h => by cases h; rfl), fun h => h ▸ .cl (.v x)⟩
theorem ren_nil {n i : Nat} {a : Option Addr} : Ren σ ns (.v (.slice a 0 0)) (.sl n i 0) ↔ True := ⟨fun _ => trivial, fun _ => .nil⟩
theorem ren_ptr {m n i j i' j' : Nat} : Ren σ ns (.ptr m i j) (.ptr n i' j') ↔ m = σ n ∧ i = i' ∧ j = j' ∧ n ∈ ns := by
  constructor
  · intro h
    cases h with
    | cl h => cases h
    | ptr h => exact ⟨rfl, rfl, rfl, h⟩
  · rintro ⟨rfl, rfl, rfl, h⟩; exact .ptr h
theorem ren_sl {m n i j i' j' : Nat} : Ren σ ns (.sl m i j) (.sl n i' j') ↔ m = σ n ∧ i = i' ∧ j = j' ∧ n ∈ ns := by
  constructor
  · intro h
    cases h with
    | cl h => cases h
    | sl h => exact ⟨rfl, rfl, rfl, h⟩
  · rintro ⟨rfl, rfl, rfl, h⟩; exact .sl h
theorem ren_ro {e e' : Nat} {l l' : List (List AV)} : Ren σ ns (.ro e l) (.ro e' l') ↔ e = e' ∧ l = l' ∧ ∀ c ∈ l, ∀ s ∈ c, Cl s := by
  constructor
  · intro h
    cases h with
    | cl h => exact ⟨rfl, rfl, Cl_ro.1 h⟩
  · rintro ⟨rfl, rfl, h⟩; exact .cl (.ro h)
theorem ren_rp {j j' : Nat} {l l' : List AV} : Ren σ ns (.rp l j) (.rp l' j') ↔ j = j' ∧ l = l' ∧ ∀ s ∈ l, Cl s := by
  constructor
  · intro h
    cases h with
    | cl h => exact ⟨rfl, rfl, Cl_rp.1 h⟩
  · rintro ⟨rfl, rfl, h⟩; exact .cl (.rp h)
theorem ren_gcl {l : List AV} (h : ∀ s ∈ l, Cl s) : Ren σ ns (.g l) (.g l) := .cl (.g h)
theorem ren_fncl {f : Nat} {l : List AV} (h : ∀ s ∈ l, Cl s) : Ren σ ns (.fn f l) (.fn f l) := .cl (.fn h)
theorem renL_cl {l l' : List (List AV)} (h : l = l') (hc : ∀ c ∈ l, ∀ s ∈ c, Cl s) : RenL σ ns l l' := .inl ⟨h, hc⟩
end
end Go.Eng
