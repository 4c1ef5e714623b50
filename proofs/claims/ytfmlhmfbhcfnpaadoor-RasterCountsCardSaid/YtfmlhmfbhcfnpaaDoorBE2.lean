/- The engine of these proofs, part 2: how a function's text is run over abstract values, and why that is right. Conditions: none (a library text). -/
import Derived.Test.YtfmlhmfbhcfnpaaDoorBE1
import Derived.RangeFuncNested
import Derived.OrdersIn
import Derived.TacticsIn
import Derived.Scope
set_option linter.unusedSimpArgs false
set_option linter.unusedVariables false
namespace Go.Eng
open Go Go.RowKit

universe u
/-- A term that the simplifier leaves alone till its turn comes: an argument that another one's type names is not rewritten. -/
class Tg {α : Sort u} (a : α) : Type
instance (priority := high) {α : Sort u} (a : α) : Tg a := ⟨⟩

/-- What is still to be done. -/
inductive It where
  | c (x : Code)
  | o (l : List Oper) (all : Array Oper)
  | blk (id : Nat)
  | lp (I : AState → Prop)

/-- A function's answer: for these arguments it returns this value, turns no block that was there, and writes nothing. -/
def PFun (P : Program) (f : FuncId) (args : List AV) (R : AV) : Prop :=
  (∃ fn, P.funcs[f]? = some fn ∧ (fn.name == "runtime.NumGoroutine") = false ∧ fn.body.isSome = true) ∧
  ∀ (X : Nat → Prop) (w : World) (vs : Array Value), (∀ b, X b → b < w.heap.size) → args.length = vs.size →
    (∀ (k : Nat) (s : AV) (u : Value), args[k]? = some s → vs[k]? = some u → RS X B0 w s u) →
    Calls P f vs w fun e w' => ∃ v, e = .returned v ∧ RS X B0 w' R v ∧ Ext w w'

def popTo (id : Nat) : List It → Option (List It)
  | .blk id' :: k => if id' = id then some k else popTo id k
  | _ :: k => popTo id k
  | [] => none

/-- Every function may be called; the frame is a round's, or none. -/
abbrev wd (ro : Option Nat) : Fence := { Fence.wide with round := ro }
theorem callsIn_wd {ro : Option Nat} {n : Nat} {P : Program} {f : FuncId} {args : Array Value} {w : World} {R : Ending → World → Prop} (h : Calls P f args w R) : CallsIn (wd ro) n P f args w R :=
  (callsIn_wide (n := n)).2 h

theorem wd_depth {ro : Option Nat} {n : Nat} (h : (wd ro).depth.isSome = true) : 1 ≤ n := absurd h Bool.false_ne_true

/-- A family of contexts, for one run. -/
def Stc (Cs : Ctx → Prop) (s : AState) (a : Act) (w : World) : Prop := ∃ C, Cs C ∧ St C s a w

/-- What yield does, as the iterator sees it: it turns only what is not the iterator's (F), and what it is from then on. -/
structure YStep (C C' : Ctx) (O : Nat → Prop) (w w' : World) : Prop where
  W : C'.W = w'
  F : ∀ b, C'.F b → C.F b ∨ w.heap.size ≤ b
  Pm : C'.Pm = O
  Flt : ∀ b, C'.F b → b < w'.heap.size
  fr : Fr C.F w w'
  sv : C'.sv = C.sv

structure GoodC (P : Program) (ro : Option Nat) (Cs : Ctx → Prop) : Prop where
  prog : ∀ C, Cs C → C.P = P
  rnd : ∀ C, Cs C → C.ro = ro
  yld : ∀ (C : Ctx) (l : Nat) (as : List AV) (rest : List (List AV)) (O : Nat → Prop) (w : World) (vs : Array Value), Cs C → C.y = some (.it l (as :: rest)) → Fr C.Pm C.W w →
    (∀ b, O b → (C.W.heap.size ≤ b ∨ C.Pm b) ∧ ¬ C.F b ∧ b < w.heap.size) → as.length = vs.size →
    (∀ (k : Nat) (s : AV) (u : Value), as[k]? = some s → vs[k]? = some u → RS (fun b => C.F b ∨ O b) B0 w s u) →
    YieldAt Fence.wide 0 P l vs w fun e w' => ∃ C' b, e = .returned (.bool b) ∧ Cs C' ∧ YStep C C' O w w' ∧ C'.y = if b then some (.it l rest) else none
  mpd : ∀ (C : Ctx) (m m' : Option (Nat × MpE)), Cs C → C.y = some (.mp m) → Cs { C with y := some (.mp m') }

theorem GoodC.one {P : Program} {C : Ctx} (hP : C.P = P) (hy : C.y = none) : GoodC P C.ro (· = C) :=
  ⟨fun _ h => h ▸ hP, fun _ h => h ▸ rfl, fun _ _ _ _ _ _ _ h hy' => (by subst h; rw [hy] at hy'; cases hy'), fun _ _ _ h hy' => (by subst h; rw [hy] at hy'; cases hy')⟩

section
variable (P : Program)

/-- Less is known. -/
def Le (s s' : AState) : Prop := ∀ (C : Ctx) (a : Act) (w : World), St C s a w → St C s' a w

def AtLoop (rec : List It → (AState → Prop) → AState → Prop) (b : Code) (k : List It) (Q : AState → Prop) (s : AState) [Tg k] [Tg Q] : Prop :=
  ∃ (ι : Type) (inv : ι → AState) (μ : ι → Nat), (∃ i, Le s (inv i)) ∧ ∀ i, rec (.c b :: .lp (fun s' => ∃ j, μ j < μ i ∧ Le s' (inv j)) :: k) Q (inv i)

/-- An operation that the run itself does not know: it is shown apart. -/
def AtOp (rec : List It → (AState → Prop) → AState → Prop) (o : Oper) (k : List It) (Q : AState → Prop) (s : AState) [Tg k] [Tg Q] : Prop :=
  ∀ (ro : Option Nat) (Cs : Ctx → Prop) (next : Act → World → Prop) (E : Exit → Act → World → Prop), GoodC P ro Cs → (∀ s' a' w', rec k Q s' → Stc Cs s' a' w' → next a' w') → ∀ a w, Stc Cs s a w → o.wpIn (wd ro) 0 P a w next E

/-- A call of a function's value. -/
def AtFn (rec : List It → (AState → Prop) → AState → Prop) (o : Oper) (f : FuncId) (as : List AV) (k : List It) (Q : AState → Prop) (s : AState) [Tg k] [Tg Q] : Prop :=
  (∃ fo xs ts caps, o.op = .call ⟨.value fo, xs, ts⟩ ∧ evA s.t fo = .fn f caps ∧ as = xs.toList.map (evA s.t) ++ caps) → AtOp P rec o k Q s

/-- A call of yield. -/
def AtYl (rec : List It → (AState → Prop) → AState → Prop) (o : Oper) (l : Nat) (x y : Array Value) (as : List AV) (k : List It) (Q : AState → Prop) (s : AState) [Tg k] [Tg Q] : Prop :=
  (∃ fo xs ts, o.op = .call ⟨.value fo, xs, ts⟩ ∧ evA s.t fo = .v (.func (.yield l) x y) ∧ as = xs.toList.map (evA s.t)) → AtOp P rec o k Q s

/-- A slot whose operation was passed over. -/
abbrev un : AV := .v (.tuple #[])
def guardA (all : Array Oper) (t : Nat → AV) (o : Oper) : Option (Bool × Bool) :=
  match o.guard with
  | none => none
  | some (j, want) =>
    match (all[j]?).bind (·.dst) with
    | some d => (match t d with | .v (.bool b) => some (b, want) | .v (.tuple ⟨[]⟩) => some (!want, want) | _ => none)
    | none => none

/-- The nil slice, as it is compared with. -/
def nilC : Operand → Bool
  | .const (.slice none 0 0) => true
  | _ => false
/-- Is it an append of so many zeros, or one to bytes? -/
def u8C (P : Program) (t : TypeId) : Bool := decide ((slT P t).bind (ikT P) = some .u8)
def mkC (P : Program) (ts : List TypeId) : Bool :=
  match ts with
  | [t, u] => (ikT P u).isSome || u8C P t
  | _ => false
/-- A struct whose first field is a pointer to such a struct. -/
def selfT (P : Program) (t : TypeId) : Bool :=
  match P.underlying t with
  | some (.struct fs) => (match fs[0]? with | some f => decide (ptT P f.type = some t) | none => false)
  | _ => false
def opK (rec : List It → (AState → Prop) → AState → Prop) (o : Oper) (k : List It) (Q : AState → Prop) (s : AState) : Prop :=
  match o.op with
  | .alloc t => if selfT P t = true then AtOp P rec o k Q s else nev P (evA s.t) o.op s.k fun av b => rec k Q (putA (pushA s b) o.dst av)
  | .box _ _ | .buildSlice _ _ _ | .makeSlice _ _ _ => nev P (evA s.t) o.op s.k fun av b => rec k Q (putA (pushA s b) o.dst av)
  | .store t p x => stK P (evA s.t) (find s.h) t p x fun n b => rec k Q (putA { s with h := setN s.h n b } o.dst .unk)
  | .call ⟨.builtin .append, xs, ts⟩ => if mkC P ts.toList = true then AtOp P rec o k Q s else apK P (evA s.t) (find s.h) xs.toList ts.toList fun ns z l => rec k Q (putA (pushA { s with h := dropN ns s.h } ⟨z, l⟩) o.dst (.sl s.k 0 l.length))
  | .call ⟨.value f, xs, _⟩ => (match evA s.t f with
    | .fn f caps => AtFn P rec o f (xs.toList.map (evA s.t) ++ caps) k Q s
    | .v (.func (.yield l) x y) => AtYl P rec o l x y (xs.toList.map (evA s.t)) k Q s
    | _ => False)
  | .convert t u x => if (ikT P u).isSome = true then qev P (evA s.t) (find s.h) o.op fun av => rec k Q (putA s o.dst av) else AtOp P rec o k Q s
  | .binOp _ _ _ y _ => if nilC y = true then AtOp P rec o k Q s else qev P (evA s.t) (find s.h) o.op fun av => rec k Q (putA s o.dst av)
  | .slice t x lo hi mx => if (arT P t).isSome = true then AtOp P rec o k Q s else qev P (evA s.t) (find s.h) o.op fun av => rec k Q (putA s o.dst av)
  | .makeMap _ _ | .lookup _ _ _ _ | .mapUpdate _ _ _ _ | .range _ _ | .next _ _ => AtOp P rec o k Q s
  | .call ⟨.builtin .copy, _, _⟩ | .call ⟨.builtin .clear, _, _⟩ | .call ⟨.builtin .delete, _, _⟩ | .call ⟨.builtin .cap, _, _⟩ | .call ⟨.builtin .unsafeString, _, _⟩ => AtOp P rec o k Q s
  | _ => qev P (evA s.t) (find s.h) o.op fun av => rec k Q (putA s o.dst av)

/-- An append. -/
theorem AtOp.app {P : Program} {rec : List It → (AState → Prop) → AState → Prop} {o : Oper} {k : List It} {Q : AState → Prop} {s : AState} {xs : Array Operand} {ts : Array TypeId} (ho : o.op = .call ⟨.builtin .append, xs, ts⟩)
    (hk : apK P (evA s.t) (find s.h) xs.toList ts.toList fun ns z l => rec k Q (putA (pushA { s with h := dropN ns s.h } ⟨z, l⟩) o.dst (.sl s.k 0 l.length))) : AtOp P rec o k Q s := by
  intro ro Cs next E hg hnext a w ⟨C, hC, β, h⟩
  have hP := hg.prog C hC
  subst hP
  have hd : ∀ c, o.op ≠ .defer c := by intro c hc; rw [ho] at hc; cases hc
  obtain ⟨ns, z, l, u, w', β', hK, hr, h', hR, _, _⟩ := apK_sound h ho hk
  refine ⟨fun _ _ => trivial, ?_⟩
  rw [Oper.semAt_eq _ _ _ hd, hr]
  exact hnext _ _ _ hK ⟨C, hC, β', h'.put hR o.dst⟩

variable (Cs : Ctx → Prop) (ro : Option Nat) (Fin : Act → World → Prop)

def kpost (r : (Act → World → Prop) × (Nat → Act → World → Prop)) : Exit → Act → World → Prop
  | .normal, a, w => r.1 a w
  | .exit id, a, w => r.2 id a w
  | .ret, a, w => Fin a w
  | _, _, _ => False

def Kont : List It → (Act → World → Prop) × (Nat → Act → World → Prop)
  | [] => (Fin, fun _ _ _ => False)
  | .c c :: k => (Code.wpIn (wd ro) 0 P c (kpost Fin (Kont k)), (Kont k).2)
  | .o l all :: k => (wpListIn (wd ro) 0 P all (kpost Fin (Kont k)) l, (Kont k).2)
  | .blk id :: k => ((Kont k).1, fun id' a w => if id' = id then (Kont k).1 a w else (Kont k).2 id' a w)
  | .lp I :: k => (fun a w => ∃ s, Stc Cs s a w ∧ I s, (Kont k).2)

theorem kont_pop (id : Nat) : ∀ (k k' : List It), popTo id k = some k' → ∀ a w, (Kont P Cs ro Fin k').1 a w → (Kont P Cs ro Fin k).2 id a w
  | [], k', h, a, w, _ => by simp [popTo] at h
  | .blk id' :: k, k', h, a, w, hk => by
    simp only [popTo] at h
    simp only [Kont]
    split at h
    · rename_i e; cases h; rw [if_pos e.symm]; exact hk
    · rename_i e; rw [if_neg (fun e' => e e'.symm)]; exact kont_pop id k k' h a w hk
  | .c _ :: k, k', h, a, w, hk => kont_pop id k k' h a w hk
  | .o _ _ :: k, k', h, a, w, hk => kont_pop id k k' h a w hk
  | .lp _ :: k, k', h, a, w, hk => kont_pop id k k' h a w hk
end

section
variable (P : Program)
/-- A run is right. -/
def Snd (rec : List It → (AState → Prop) → AState → Prop) : Prop :=
  ∀ (ro : Option Nat) (Cs : Ctx → Prop) (Fin : Act → World → Prop) (Q : AState → Prop), GoodC P ro Cs → (∀ s a w, Q s → Stc Cs s a w → Fin a w) → ∀ todo s a w, rec todo Q s → Stc Cs s a w → (Kont P Cs ro Fin todo).1 a w

/-- A piece of text that the run itself does not walk: it is shown apart. -/
def AtCode (rec : List It → (AState → Prop) → AState → Prop) (c : Code) (k : List It) (Q : AState → Prop) (s : AState) [Tg k] [Tg Q] : Prop :=
  ∀ (ro : Option Nat) (Cs : Ctx → Prop) (Fin : Act → World → Prop), GoodC P ro Cs → P.follows .mixedOrders = true → Snd P rec → (∀ s a w, Q s → Stc Cs s a w → Fin a w) →
    ∀ a w, Stc Cs s a w → c.wpIn (wd ro) 0 P (kpost Fin (Kont P Cs ro Fin k)) a w

def vcRun : Nat → List It → (AState → Prop) → AState → Prop
  | 0, _, _, _ => False
  | n + 1, todo, Q, s =>
    match todo with
    | [] => Q s
    | .c .skip :: k => vcRun n k Q s
    | .c (.label _) :: k => vcRun n k Q s
    | .c .ret :: _ => Q s
    | .c (.seq a b) :: k => vcRun n (.c a :: .c b :: k) Q s
    | .c (.cond c a b) :: k => (match evA s.t c with | .v (.bool z) => (z = true → vcRun n (.c a :: k) Q s) ∧ (z = false → vcRun n (.c b :: k) Q s) | _ => False)
    | .c (.block id b) :: k => vcRun n (.c b :: .blk id :: k) Q s
    | .c (.exit id) :: k => (match popTo id k with | some k' => vcRun n k' Q s | none => False)
    | .c (.region _ ops false) :: k => vcRun n (.o ops.toList ops :: k) Q s
    | .c (.region id ops true) :: k => AtCode P (vcRun n) (.region id ops true) k Q s
    | .c (.rangeFunc f ps as b) :: k => AtCode P (vcRun n) (.rangeFunc f ps as b) k Q s
    | .c (.loop b) :: k => AtLoop (vcRun n) b k Q s
    | .c (.scope b) :: k => vcRun n (.c b :: k) Q s
    | .c _ :: _ => False
    | .blk _ :: k => vcRun n k Q s
    | .lp I :: _ => I s
    | .o [] _ :: k => vcRun n k Q s
    | .o (o :: r) all :: k =>
      (match o.guard with
       | none => opK P (vcRun n) o (.o r all :: k) Q s
       | some _ => (match guardA all s.t o with
          | some (b, want) => (b = want → opK P (vcRun n) o (.o r all :: k) Q s) ∧ (b ≠ want → vcRun n (.o r all :: k) Q (putA s o.dst un))
          | none => False))
end

theorem args_get {X : Nat → Prop} {β : Bt} {w : World} {ρ : Operand → AV} {ρc : Operand → Value} (hρ : ∀ x, RS X β w (ρ x) (ρc x)) (xs : Array Operand) :
    (xs.toList.map ρ).length = (xs.map ρc).size ∧ ∀ (k : Nat) (s : AV) (u : Value), (xs.toList.map ρ)[k]? = some s → (xs.map ρc)[k]? = some u → RS X β w s u := by
  refine ⟨by simp, fun k s u hs hu => ?_⟩
  simp only [List.getElem?_map, Array.getElem?_map, Array.getElem?_toList] at hs hu
  cases hc : xs[k]? with
  | none => simp [hc] at hs
  | some c => simp only [hc, Option.map_some, Option.some.injEq] at hs hu; subst hs; subst hu; exact hρ c

/-- A scope that is left by no jump. -/
theorem wpIn_scope_straight {F : Fence} {n : Nat} {P : Program} {Q : Exit → Act → World → Prop} {a : Act} {w : World} {c : Code} (h : c.wpIn F n P (Exit.noGoto Q) a w) : (Code.scope c).wpIn F n P Q a w := by
  intro b k cs hro hb hr
  have h0 : (lone (b.atR a (.code (.scope c) :: k)) cs w).fenced P F := fenced_calm hb hr rfl
  have s0 : step P (lone (b.atR a (.code (.scope c) :: k)) cs w) = .next (lone (b.atR a (.code c :: .inScope c :: k)) cs w) := step_lone_go (by simp [stepG, stepG.exec, Frame.atR])
  have s1 : ∀ a w, step P (lone (b.atR a (.inScope c :: k)) cs w) = .next (lone (b.atR a k) cs w) := fun a w => step_lone_go (by simp [stepG, stepG.exec, Frame.atR])
  obtain ⟨e, a₁, w₁, hq, harr⟩ := h b (.inScope c :: k) cs hro hb hr
  cases e with
  | normal => exact ⟨.normal, a₁, w₁, hq, .head h0 s0 (StepsIn.trans harr (.one (fenced_calm hb hr rfl) (s1 a₁ w₁)))⟩
  | exit id =>
    have hx : exitTo id (.inScope c :: k) = exitTo id k := by simp [exitTo]
    exact ⟨.exit id, a₁, w₁, hq, fun k' hk => .head h0 s0 (harr.1 k' (by rw [hx]; exact hk)),
      fun hr' hk => let ⟨k₁, h1, h2⟩ := harr.2 hr' (by rw [hx]; exact hk); ⟨k₁, h1, .head h0 s0 h2⟩⟩
  | goto l => exact hq.elim
  | ret => exact ⟨_, a₁, w₁, hq, .of_steps (.one h0 s0) harr⟩
  | panic ch => exact ⟨_, a₁, w₁, hq, .of_steps (.one h0 s0) harr⟩
  | outgrown => exact ⟨_, a₁, w₁, hq, .of_steps (.one h0 s0) harr⟩
/-- A loop whose rounds are named. -/
theorem wp_loop_fam {F : Fence} {n : Nat} {P : Program} {Q : Exit → Act → World → Prop} {a : Act} {w : World} {c : Code} {ι : Type} (I : ι → Act → World → Prop) (μ : ι → Nat) (i0 : ι) (h0 : I i0 a w)
    (round : ∀ i a w, I i a w → c.wpIn F n P (Exit.then (fun a w => ∃ j, μ j < μ i ∧ I j a w) Q) a w) : (Code.loop c).wpIn F n P Q a w := by
  intro b k cs hro hb hr
  have key : ∀ m i a w, μ i = m → I i a w →
      ∃ e a' w', Q e a' w' ∧ ArrivesIn (Machine.fenced P F) P (lone (b.atR a (.code c :: .inLoop c :: k)) cs w) b k cs e a' w' := by
    intro m
    induction m using Nat.strongRecOn with
    | _ m ih =>
      intro i a w hn hI
      obtain ⟨e, a₁, w₁, hq, harr⟩ := round i a w hI b (.inLoop c :: k) cs hro hb hr
      cases e with
      | normal =>
        obtain ⟨j, hlt, hI₁⟩ := hq
        obtain ⟨e₂, a₂, w₂, hq₂, harr₂⟩ := ih (μ j) (hn ▸ hlt) j a₁ w₁ rfl hI₁
        exact ⟨e₂, a₂, w₂, hq₂, .of_steps (StepsIn.trans harr (.one (fenced_calm hb hr rfl) stepR_inLoop)) harr₂⟩
      | exit id => exact ⟨_, a₁, w₁, hq, .pass (x := .inLoop c) rfl (fun _ _ => .inl (by simp)) harr⟩
      | goto l => exact ⟨_, a₁, w₁, hq, .pass (x := .inLoop c) rfl (fun _ _ => .inl (by simp)) harr⟩
      | ret => exact ⟨_, a₁, w₁, hq, .pass (x := .inLoop c) rfl (fun _ _ => .inl (by simp)) harr⟩
      | panic ch => exact ⟨_, a₁, w₁, hq, .pass (x := .inLoop c) rfl (fun _ _ => .inl (by simp)) harr⟩
      | outgrown => exact ⟨_, a₁, w₁, hq, .pass (x := .inLoop c) rfl (fun _ _ => .inl (by simp)) harr⟩
  obtain ⟨e, a', w', hq, harr⟩ := key _ i0 a w rfl h0
  exact ⟨e, a', w', hq, .of_steps (.one (fenced_calm hb hr rfl) stepR_loop) harr⟩

theorem wanted_undef {tmps : Array Value} {d : Nat} (hv : tmps.getD d undef = .tuple ⟨[]⟩) (want : Bool) :
    ((match tmps[d]? with | some (.bool b) => some b | _ => none) == some want) = decide ((!want) = want) := by
  have : decide ((!want) = want) = false := by cases want <;> rfl
  rw [this]
  cases hq : tmps[d]? with
  | none => cases want <;> rfl
  | some y =>
    rw [Array.getD_eq_getD_getElem?, hq] at hv
    simp only [Option.getD_some] at hv
    subst hv
    cases want <;> rfl

theorem opK_sound {P : Program} {Cs : Ctx → Prop} {ro : Option Nat} {s : AState} {a : Act} {w : World} {rec : List It → (AState → Prop) → AState → Prop} {o : Oper} {k : List It} {Q : AState → Prop} {next : Act → World → Prop} {E : Exit → Act → World → Prop}
    (hg : GoodC P ro Cs) (hs : Stc Cs s a w) (hk : opK P rec o k Q s) (hnext : ∀ s' a' w', rec k Q s' → Stc Cs s' a' w' → next a' w') : o.wpIn (wd ro) 0 P a w next E := by
  obtain ⟨C, hC, hs⟩ := hs
  have hP := hg.prog C hC
  subst hP
  have hall : Stc Cs s a w := ⟨C, hC, hs⟩
  obtain ⟨β, h⟩ := hs
  have hd : ∀ c, o.op ≠ .defer c := by
    intro c hc
    unfold opK at hk
    rw [hc] at hk
    exact hk
  have fin : ∀ {r : Result Next}, (execOp a.eval o).run C.P w = r → Oper.uponIn (wd ro) 0 C.P o a next E r → o.wpIn (wd ro) 0 C.P a w next E := by
    rintro r hr hu
    refine ⟨fun _ _ => trivial, ?_⟩
    rw [Oper.semAt_eq _ _ _ hd, hr]; exact hu
  have quiet : qev C.P (evA s.t) (find s.h) o.op (fun av => rec k Q (putA s o.dst av)) → o.wpIn (wd ro) 0 C.P a w next E := by
    intro hq
    obtain ⟨av, u, hK, hr, hR⟩ := qev_sound (fun x => h.read x) (fun n b hb => h.look n b hb) hq
    exact fin hr (hnext _ _ _ hK ⟨C, hC, β, h.put hR o.dst⟩)
  have newb : nev C.P (evA s.t) o.op s.k (fun av b => rec k Q (putA (pushA s b) o.dst av)) → o.wpIn (wd ro) 0 C.P a w next E := by
    intro hq
    obtain ⟨av, b, u, c, t, hK, hr, hN, hV⟩ := nev_sound (P := C.P) (fun x => h.read x) hq
    have h' := h.push (t := t) hN
    exact fin hr (hnext _ _ _ hK ⟨C, hC, _, h'.put (hV _ _ _ (by simp [updB]) (by simp [World.shape?])) o.dst⟩)
  unfold opK at hk
  split at hk
  · split at hk
    · exact hk ro Cs next E hg hnext a w hall
    · exact newb hk
  · exact newb hk
  · exact newb hk
  · exact newb hk
  · rename_i t p x ho
    obtain ⟨n, b, w', hK, hr, h'⟩ := stK_sound h ho hk
    exact fin hr (hnext _ _ _ hK ⟨C, hC, β, h'.put (.unk _) o.dst⟩)
  · rename_i xs ts ho
    split at hk
    · exact hk ro Cs next E hg hnext a w hall
    · obtain ⟨ns, z, l, u, w', β', hK, hr, h', hR, _, _⟩ := apK_sound h ho hk
      exact fin hr (hnext _ _ _ hK ⟨C, hC, β', h'.put hR o.dst⟩)
  · rename_i fo xs ats ho
    split at hk
    · rename_i f caps hf
      exact hk ⟨fo, xs, ats, caps, ho, hf, rfl⟩ ro Cs next E hg hnext a w hall
    · rename_i l x y hf
      exact hk ⟨fo, xs, ats, ho, hf, rfl⟩ ro Cs next E hg hnext a w hall
    · exact hk.elim
  · split at hk
    · exact quiet hk
    · exact hk ro Cs next E hg hnext a w hall
  · split at hk
    · exact hk ro Cs next E hg hnext a w hall
    · exact quiet hk
  · split at hk
    · exact hk ro Cs next E hg hnext a w hall
    · exact quiet hk
  · exact hk ro Cs next E hg hnext a w hall
  · exact hk ro Cs next E hg hnext a w hall
  · exact hk ro Cs next E hg hnext a w hall
  · exact hk ro Cs next E hg hnext a w hall
  · exact hk ro Cs next E hg hnext a w hall
  · exact hk ro Cs next E hg hnext a w hall
  · exact hk ro Cs next E hg hnext a w hall
  · exact hk ro Cs next E hg hnext a w hall
  · exact hk ro Cs next E hg hnext a w hall
  · exact hk ro Cs next E hg hnext a w hall
  · exact quiet hk

theorem vcRun_sound {P : Program} (hm : P.follows .mixedOrders = true) : ∀ (n : Nat), Snd P (vcRun P n) := by
  intro n
  induction n with
  | zero => intro ro Cs Fin Q hg hQ todo s a w h _; exact h.elim
  | succ n ih0 =>
    intro ro Cs Fin Q hg hQ todo s a w h hs
    have ih := ih0 ro Cs Fin Q hg hQ
    unfold vcRun at h
    split at h
    · exact hQ s a w h hs
    · rename_i k; exact wpIn_skip (ih k s a w h hs)
    · rename_i l k; exact wpIn_label (ih k s a w h hs)
    · rename_i k; exact wpIn_ret (hQ s a w h hs)
    · rename_i x y k
      have := ih _ s a w h hs
      simp only [Kont] at this
      refine wpIn_seq (Code.wpIn_mono (fun e a w he => ?_) this)
      cases e <;> first | exact he | exact he.elim
    · rename_i c x y k
      split at h
      case h_2 => exact h.elim
      rename_i z hz
      obtain ⟨C, hC, β, hst⟩ := hs
      have hc := hst.read c
      rw [hz] at hc
      generalize hv : a.eval c = vc at hc
      cases hc
      exact wpIn_cond_split hv (fun hz => ih _ s a w (h.1 hz) ⟨C, hC, β, hst⟩) (fun hz => ih _ s a w (h.2 hz) ⟨C, hC, β, hst⟩)
    · rename_i id b k
      have := ih _ s a w h hs
      simp only [Kont] at this
      refine wpIn_block (Code.wpIn_mono (fun e a w he => ?_) this)
      cases e with
      | exit id' =>
        simp only [kpost, Exit.inBlock] at he ⊢
        split
        · rename_i e; rw [if_pos e] at he; exact he
        · rename_i e; rw [if_neg e] at he; exact he
      | _ => first | exact he | exact he.elim
    · rename_i id k
      split at h
      case h_2 => exact h.elim
      rename_i k' hk'
      exact wpIn_exit (kont_pop P Cs ro Fin id k k' hk' a w (ih k' s a w h hs))
    · rename_i id ops k
      exact wpIn_region_list (ih _ s a w h hs)
    · rename_i id ops k
      exact h ro Cs Fin hg hm ih0 hQ a w hs
    · rename_i f ps as b k
      exact h ro Cs Fin hg hm ih0 hQ a w hs
    · rename_i b k
      obtain ⟨ι, inv, μ, ⟨i0, h0⟩, hr⟩ := h
      refine wp_loop_fam (fun i a w => Stc Cs (inv i) a w) μ i0 (let ⟨C, hC, hst⟩ := hs; ⟨C, hC, h0 C a w hst⟩) fun i a w hi => ?_
      have := ih _ (inv i) a w (hr i) hi
      simp only [Kont] at this
      refine Code.wpIn_mono (fun e a w he => ?_) this
      cases e with
      | normal =>
        obtain ⟨s', ⟨C, hC, hs'⟩, j, hj, hle⟩ := he
        exact ⟨j, hj, C, hC, hle C a w hs'⟩
      | _ => first | exact he | exact he.elim
    · rename_i b k
      have := ih _ s a w h hs
      simp only [Kont] at this
      refine wpIn_scope_straight (Code.wpIn_mono (fun e a w he => ?_) this)
      cases e <;> first | exact he | exact he.elim
    · exact h.elim
    · rename_i id k; exact ih k s a w h hs
    · rename_i I k; exact ⟨s, hs, h⟩
    · rename_i all k
      show wpListIn (wd ro) 0 P all (kpost Fin (Kont P Cs ro Fin k)) [] a w
      exact wpListIn_nil (Q := kpost Fin (Kont P Cs ro Fin k)) (ih k s a w h hs)
    · rename_i o r all k
      simp only [Kont]
      have hgo : opK P (vcRun P n) o (.o r all :: k) Q s → ∀ K : Act → World → Prop, (∀ a w, wpListIn (wd ro) 0 P all (kpost Fin (Kont P Cs ro Fin k)) r a w → K a w) → o.wpIn (wd ro) 0 P a w K (kpost Fin (Kont P Cs ro Fin k)) := by
        intro ho K hK
        exact opK_sound hg hs ho fun s' a' w' hrec hst => hK _ _ (ih _ s' a' w' hrec hst)
      split at h
      · rename_i hg'; exact wpListIn_plain hg' (hgo h)
      · rename_i g hg'
        split at h
        case h_2 => exact h.elim
        rename_i b want hgd
        have hgo' := hgo
        obtain ⟨C, hC, β, hst⟩ := hs
        have hw : Region.wanted o (yielded all a.tmps) = decide (b = want) := by
          unfold guardA at hgd
          obtain ⟨j, want'⟩ := g
          rw [hg'] at hgd
          simp only at hgd
          split at hgd
          case h_2 => cases hgd
          rename_i d hd
          split at hgd
          case h_3 => cases hgd
          case h_2 =>
            rename_i hb'
            simp only [Option.some.injEq, Prod.mk.injEq] at hgd
            obtain ⟨rfl, rfl⟩ := hgd
            simp only [Region.wanted, hg', yielded, hd, Option.bind_some]
            have hx := hst.tm d
            rw [hb'] at hx
            generalize hv : a.tmps.getD d undef = va at hx
            cases hx
            exact wanted_undef hv want'
          rename_i b' hb'
          simp only [Option.some.injEq, Prod.mk.injEq] at hgd
          obtain ⟨rfl, rfl⟩ := hgd
          simp only [Region.wanted, hg', yielded, hd, Option.bind_some]
          have hx := hst.tm d
          rw [hb'] at hx
          have hu : a.tmps[d]? = some (.bool b') := by
            generalize hv : a.tmps.getD d undef = va at hx
            cases hx
            cases hq : a.tmps[d]? with
            | none =>
              rw [Array.getD_eq_getD_getElem?, hq] at hv
              cases hv
            | some y =>
              rw [Array.getD_eq_getD_getElem?, hq] at hv
              simp only [Option.getD_some] at hv
              rw [hv]
          rw [hu]
          cases b' <;> cases want' <;> rfl
        refine wpListIn_step fun K hK => ?_
        rw [hw]
        by_cases hbw : b = want
        · simp only [hbw, decide_true, if_true]
          exact hgo' (h.1 hbw) K hK
        · simp only [hbw, decide_false, Bool.false_eq_true, if_false]
          exact ⟨fun _ _ => trivial, hK _ _ (ih _ _ _ _ (h.2 hbw) ⟨C, hC, β, hst.put (.v _) o.dst⟩)⟩

theorem AtFn.pure' {P : Program} {rec : List It → (AState → Prop) → AState → Prop} {o : Oper} {f : FuncId} {as as' : List AV} {k : List It} {Q : AState → Prop} {s : AState} {R : AV} {ns : List Nat}
    (has : as.map (frzA (find s.h) 3) = as') (hns : as.flatMap (namesA (find s.h) 3) = ns) (hfun : PFun P f as' R) (hcl : ∀ a ∈ as', Cl a)
    (hk : rec k Q (putA { s with h := dropN ns s.h } o.dst R)) : AtFn P rec o f as k Q s := by
  rintro ⟨fo, xs, ats, caps, ho, hf, rfl⟩ ro Cs next E hg hnext a w ⟨C, hC, β, h⟩
  have hP := hg.prog C hC
  subst hP; subst has; subst hns
  refine ⟨fun _ _ => trivial, ?_⟩
  rw [Oper.semAt_eq _ _ _ (fun c hc => by rw [ho] at hc; cases hc)]
  obtain ⟨⟨fn, hfn, hname, hbody⟩, hcall⟩ := hfun
  have hfr := h.read fo
  rw [hf] at hfr
  generalize hv : a.eval fo = va at hfr
  cases hfr with
  | fn hl hR =>
    rename_i vs
    have hd := h.drop ((xs.toList.map (evA s.t) ++ caps).flatMap (namesA (find s.h) 3))
    obtain ⟨ha1, ha2⟩ := args_get (fun x => h.read x) xs
    have hrun : (execOp a.eval o).run C.P w = .ok (.enter f (xs.map a.eval ++ vs)) w := by
      obtain ⟨_, op, _, _, _, _⟩ := o
      simp only at ho; subst ho
      have hnb : ¬ fn.body = none := by cases hb : fn.body <;> simp_all
      have hne : ¬ fn.name = "runtime.NumGoroutine" := by simpa using hname
      simp [execOp, resolve, hv, Deferred.ofValue, invoke, callFunc, hfn, hne, hnb]
    rw [hrun]
    have hX : ∀ b, XOf C.F β (dropN ((xs.toList.map (evA s.t) ++ caps).flatMap (namesA (find s.h) 3)) s.h) b → b < w.heap.size := by
      rintro b (hb | ⟨p, hp, o', e, hb⟩)
      · exact Nat.lt_of_lt_of_le (h.Flt b hb) h.fr.size
      · exact h.lt_size (mem_dropN.1 hp).1 hb
    refine ⟨wd_depth, callsIn_wd ?_⟩
    refine Calls.mono (hcall _ w (xs.map a.eval ++ vs) hX (by simp at ha1 hl ⊢; omega) (fun q sv u hsv hu => ?_)) ?_
    · simp only [List.getElem?_map, Option.map_eq_some_iff] at hsv
      obtain ⟨x, hx, rfl⟩ := hsv
      have hmem : x ∈ xs.toList.map (evA s.t) ++ caps := List.mem_of_getElem? hx
      have hrs : RS (XOf C.F β s.h) β w x u := by
        by_cases hq : q < (xs.toList.map (evA s.t)).length
        · rw [List.getElem?_append_left hq] at hx
          rw [Array.getElem?_append_left (by omega)] at hu
          exact ha2 q x u hx hu
        · rw [List.getElem?_append_right (by omega)] at hx
          rw [Array.getElem?_append_right (by omega)] at hu
          rw [← ha1] at hu
          exact hR _ x u hx hu
      exact (frzA_sound h _ 3 x u hrs (fun n hn => List.mem_flatMap.2 ⟨x, hmem, hn⟩)).closed (hcl _ (List.mem_map_of_mem hmem)) B0
    · rintro e w' ⟨v, rfl, hRv, hext⟩
      have hRv' : RS (XOf C.F β (dropN ((xs.toList.map (evA s.t) ++ caps).flatMap (namesA (find s.h) 3)) s.h)) β w' R v :=
        hRv.mono ⟨fun _ h h' => absurd h h', (fun _ _ h => by cases h), Nat.le_refl _, fun _ _ _ => rfl, fun _ _ _ h => h⟩
      exact hnext _ _ _ hk ⟨C, hC, β, (hd.ext hext).put hRv' o.dst⟩
end Go.Eng

set_option linter.unusedSimpArgs false
set_option linter.unusedVariables false
namespace Go.Eng
open Go Go.RowKit

def res1 (P : Program) (s : AState) (r : ResultVar) (K : AV → Prop) : Prop :=
  match r with
  | .tmp t => K (frzA (find s.h) 4 (s.t t))
  | .cell a t =>
    (match s.t a with
     | .ptr n i j => (match find s.h n with | some k => ∃ ch, k.l[i]? = some ch ∧ loadK P t ch j fun av => K (frzA (find s.h) 4 av) | none => False)
     | _ => False)

def resK (P : Program) (s : AState) : List ResultVar → (List AV → Prop) → Prop
  | [], K => K []
  | r :: rs, K => res1 P s r fun x => resK P s rs fun l => K (x :: l)

def tupA : List AV → AV
  | [x] => x
  | l => .t l

def FinA (P : Program) (rs : List ResultVar) (R : AV) (s : AState) : Prop := resK P s rs fun l => tupA l = R

def resOne (tmps : Array Value) : ResultVar → Sem Value
  | .tmp t => pure (tmps.getD t undef)
  | .cell a t => do loadVar t (← asAddr (tmps.getD a undef))

section
variable {C : Ctx} {s : AState} {β : Bt} {a : Act} {w : World}

theorem allN_drop (h : List (Nat × Blk)) (ns : List Nat) (hall : ∀ p ∈ h, p.1 ∈ ns) : dropN ns h = [] := by
  unfold dropN
  rw [List.filter_eq_nil_iff]
  intro p hp
  simp [hall p hp]

theorem frz_out (h : StR C s β a w) (d : Nat) {x : AV} {u : Value} (hx : RS (XOf C.F β s.h) β w x u) : RS C.F β w (frzA (find s.h) d x) u := by
  have := frzA_sound h (s.h.map (·.1) ++ namesA (find s.h) d x) d x u hx (fun n hn => List.mem_append_right _ hn)
  rw [allN_drop s.h _ (fun p hp => List.mem_append_left _ (List.mem_map_of_mem hp))] at this
  exact this.anti fun b hb => .inl hb

theorem res1_sound (h : StR C s β a w) {r : ResultVar} {K : AV → Prop} (hr : res1 C.P s r K) :
    ∃ av v, K av ∧ (resOne a.tmps r).run C.P w = .ok v w ∧ RS C.F β w av v := by
  unfold res1 at hr
  split at hr
  · rename_i t
    exact ⟨_, _, hr, rfl, frz_out h 4 (h.read (.tmp t))⟩
  · rename_i b t
    split at hr
    case h_2 => exact hr.elim
    rename_i n i j hb
    have hrd := h.read (.tmp b)
    simp only [evA, hb] at hrd
    simp only [Act.eval] at hrd
    generalize hv : a.tmps.getD b undef = va at hrd
    cases hrd with
    | ptr hbb =>
      split at hr
      case h_2 => exact hr.elim
      rename_i k hk
      obtain ⟨ch, hi, hl⟩ := hr
      obtain ⟨av, x, h1, h2, h3⟩ := loadK_own (w := w) hbb (h.look n k hk) hi hl
      exact ⟨_, x, h1, by simp [resOne, hv, asAddr, h2], frz_out h 4 h3⟩

theorem resK_sound (h : StR C s β a w) : ∀ (rs : List ResultVar) (K : List AV → Prop), resK C.P s rs K →
    ∃ l vs, K l ∧ (rs.mapM (resOne a.tmps)).run C.P w = .ok vs w ∧
      l.length = vs.length ∧ ∀ (k : Nat) (s : AV) (u : Value), l[k]? = some s → vs[k]? = some u → RS C.F β w s u
  | [], K, hr => ⟨[], [], hr, by simp, rfl, fun k s u hs => by simp at hs⟩
  | r :: rs, K, hr => by
    obtain ⟨av, v, h1, h2, h3⟩ := res1_sound h hr
    obtain ⟨l, vs, k1, k2, k3, k4⟩ := resK_sound h rs _ h1
    refine ⟨av :: l, v :: vs, k1, ?_, by simp [k3], fun k s u hs hu => ?_⟩
    · rw [List.mapM_cons]
      simp only [Sem.run_bind, h2, Result.andThen_ok, k2, Sem.run_pure]
    · match k with
      | 0 => simp at hs hu; subst hs; subst hu; exact h3
      | k + 1 => simp at hs hu; exact k4 k s u hs hu

theorem FinA_sound (h : StR C s β a w) {fn : Func} {R : AV} (hr : FinA C.P fn.results.toList R s) (hcl : Cl R) :
    ∃ v, (results fn a.tmps).run C.P w = .ok v w ∧ RS C.F B0 w R v := by
  obtain ⟨l, vs, h1, h2, h3, h4⟩ := resK_sound h _ _ hr
  have hm : (fn.results.mapM (resOne a.tmps)).run C.P w = .ok vs.toArray w := by
    rw [Array.mapM_eq_mapM_toList]
    simp only [Sem.run_map, h2, Result.andThen_ok]
  have hr' : (results fn a.tmps).run C.P w = .ok (if h : vs.toArray.size = 1 then vs.toArray[0] else .tuple vs.toArray) w := by
    have he : results fn a.tmps = (do let vs ← fn.results.mapM (resOne a.tmps); pure (if h : vs.size = 1 then vs[0] else .tuple vs)) := by
      unfold results
      congr 2
    rw [he]
    simp only [Sem.run_bind, hm, Result.andThen_ok, Sem.run_pure]
  refine ⟨_, hr', ?_⟩
  suffices hs : RS C.F β w R (if h : vs.toArray.size = 1 then vs.toArray[0] else .tuple vs.toArray) from hs.closed hcl B0
  subst h1
  match l, vs, h3, h4 with
  | [x], [v], _, h4 => exact h4 0 x v rfl rfl
  | [], [], h3, h4 => exact .t rfl fun k s u hs => by simp at hs
  | x :: y :: l, v :: u :: vs, h3, h4 =>
    have : ¬ (v :: u :: vs).toArray.size = 1 := by simp
    rw [dif_neg this]
    exact .t (by simpa using h3) fun k s' u' hs hu => h4 k s' u' hs (by simpa using hu)
end

theorem shape_isC {w : World} {b t m : Nat} (h : w.shape? b = some (t, m)) : IsC w b := by
  unfold World.shape? at h
  split at h
  · rename_i c t q he; exact ⟨_, _, _, he⟩
  · cases h

/-- What is turned are no cells. -/
theorem RS.off {X : Nat → Prop} {β : Bt} {w w' : World} (hw : ∀ b, IsC w b → w'.heap[b]? = w.heap[b]?) {x : AV} {u : Value} (h : RS X β w x u) : RS X β w' x u := by
  induction h with
  | v x => exact .v x
  | unk x => exact .unk x
  | tb h hs => exact .tb h (by rw [shape_of_heap (hw _ (shape_isC hs))]; exact hs)
  | ptr h => exact .ptr h
  | sl h hl hs hc => exact .sl h hl (by rw [shape_of_heap (hw _ (shape_isC hs))]; exact hs) hc
  | slz => exact .slz
  | ez => exact .ez
  | ro0 => exact .ro0
  | ro u hX hb hl hd hu _ ih =>
    exact .ro u hX (hb.to (hw _ hb)) hl hd (fun k hk => by rw [cell_of_heap (hw _ hb)]; exact hu k hk) ih
  | rp u hX hb hu _ ih =>
    exact .rp u hX (hb.to (hw _ hb)) (fun k hk => by rw [cell_of_heap (hw _ hb)]; exact hu k hk) ih
  | fn hl _ ih => exact .fn hl ih
  | g hl _ ih => exact .g hl ih
  | t hl _ ih => exact .t hl ih

theorem OwnR.off {X : Nat → Prop} {β : Bt} {w w' : World} (hw : ∀ b, IsC w b → w'.heap[b]? = w.heap[b]?) {n : Nat} {k : Blk} (h : OwnR X β w n k) : OwnR X β w' n k := by
  rcases h with ⟨b, o, c, t, h1, h2, h3, h4, h5⟩ | ⟨h1, h2⟩
  · refine .inl ⟨b, o, c, t, h1, by rw [hw _ ⟨_, _, _, h2⟩]; exact h2, h3, h4, fun i j ch s hi hj => ?_⟩
    obtain ⟨u, hu, hr⟩ := h5 i j ch s hi hj
    exact ⟨u, hu, hr.off hw⟩
  · exact .inr ⟨h1, h2⟩

theorem StR.off {C : Ctx} {s : AState} {β : Bt} {a : Act} {w w' : World} (h : StR C s β a w) (hw : ∀ b, IsC w b → w'.heap[b]? = w.heap[b]?) (hfr : Fr C.Pm C.W w') {ds : List Deferred} (hds : Bk C w' ds) : StR C s β { a with defers := ds } w' :=
  ⟨hds, h.size, fun i => (h.tm i).off hw, fun p hp => (h.own p hp).off hw, h.lt, h.βlt, h.nd, h.inj, h.mine, hfr, h.Flt, ⟨h.sv.1, fun j f g hf hg i => (h.sv.2 j f g hf hg i).off hw⟩, h.yy⟩

/-- A block that is no cells is turned, and may be. -/
theorem off_put {w : World} {D : Nat} {o o' : Obj} (hD : w.heap[D]? = some o) (ho : ∀ c t q, o ≠ .cells c t q) (b : Nat) (hb : IsC w b) : (w.putObj D o').heap[b]? = w.heap[b]? := by
  refine World.putObj_heap_other fun e => ?_
  subst e
  obtain ⟨c, t, q, hc⟩ := hb
  rw [hD] at hc; cases hc; exact ho _ _ _ rfl

theorem Fr.put {Pm : Nat → Prop} {W w : World} (h : Fr Pm W w) {D : Nat} {o o' : Obj} (hD : w.heap[D]? = some o) (ho : ∀ c t q, o ≠ .cells c t q) (hP : W.heap.size ≤ D ∨ Pm D) : Fr Pm W (w.putObj D o') := by
  refine ⟨h.os, h.tape, h.output, by simpa [World.putObj] using h.size, fun b hb hp => ?_, fun b t m hs => ?_⟩
  · have hne : b ≠ D := by
      intro e; subst e
      rcases hP with h' | h'
      · omega
      · exact hp h'
    rw [World.putObj_heap_other hne]
    exact h.block b hb hp
  · have h1 := h.shape b t m hs
    rw [shape_of_heap (off_put hD ho b (shape_isC h1))]; exact h1

theorem leaves {C : Ctx} {s : AState} {β : Bt} {F : Fence} {n : Nat} {fn : Func} {R : AV} {Rp : Ending → World → Prop} (hr : FinA C.P fn.results.toList R s) (hcl : Cl R)
    (hR : ∀ v w', RS C.F B0 w' R v → Fr C.Pm C.W w' → Rp (.returned v) w') : ∀ (ds : List Deferred) (a : Act) (w : World), a.defers = ds → StR C s β a w → LeavesInM F n C.P fn a.tmps Rp ds .returning w := by
  intro ds
  induction ds with
  | nil =>
    intro a w _ h
    obtain ⟨v, h1, h2⟩ := FinA_sound h hr hcl
    exact ⟨v, h1, hR v w h2 h.fr⟩
  | cons d ds ih =>
    intro a w hd h
    obtain ⟨D, h1, h2, h3, h4⟩ := h.defers.marks d (by rw [hd]; exact List.mem_cons_self)
    have hnd := h.defers.nd
    rw [hd, List.nodup_cons] at hnd
    have hno : ∀ c t q, Obj.deferred (some []) ≠ .cells c t q := fun _ _ _ => by simp
    refine ⟨by simp, .inl ⟨D, _, by rw [h1], run_takeDeferred h2, ?_⟩⟩
    refine ih { a with defers := ds } _ rfl (h.off (off_put h2 hno) (h.fr.put h2 hno h3) ⟨fun e he => ?_, hnd.2, fun l hl => ?_, fun b l hb => ?_⟩)
    · obtain ⟨D', g1, g2, g3⟩ := h.defers.marks e (by rw [hd]; exact List.mem_cons_of_mem _ he)
      refine ⟨D', g1, ?_, g3⟩
      rw [World.putObj_heap_other]
      · exact g2
      · intro e'; subst e'; exact hnd.1 (by rw [h1, ← g1]; exact he)
    · obtain ⟨⟨r, hr⟩, hF⟩ := h.defers.rd l hl
      refine ⟨⟨r, ?_⟩, hF⟩
      rw [World.putObj_heap_other]
      · exact hr
      · intro e'; subst e'; rw [h2] at hr; cases hr
    · obtain ⟨g1, g2, g3⟩ := h.defers.mp b l hb
      refine ⟨?_, g2, g3⟩
      rw [World.putObj_heap_other]
      · exact g1
      · intro e'; subst e'; rw [h2] at g1; cases l <;> cases g1

/-- The slots of a function's start: the arguments, and nothing else is known. -/
def slots (l : List AV) : Nat → AV := fun i => l.getD i .unk

theorem PFun.intro {P : Program} {f : FuncId} {fn : Func} {c : Code} {args : List AV} {R : AV} (n : Nat) (hm : P.follows .mixedOrders = true) (hf : P.funcs[f]? = some fn) (hname : (fn.name == "runtime.NumGoroutine") = false)
    (hb : fn.body = some c) (hcl : Cl R) (hlen : args.length ≤ fn.ntmps)
    (hrun : vcRun P n [.c c] (FinA P fn.results.toList R) ⟨fn.ntmps, slots args, [], 0, .nil⟩) : PFun P f args R := by
  refine ⟨⟨fn, hf, hname, by simp [hb]⟩, fun X w vs hX hl hR => ?_⟩
  let C : Ctx := ⟨P, X, fun _ => False, w, [], none, none⟩
  have hst : StR C ⟨fn.ntmps, slots args, [], 0, .nil⟩ B0 { tmps := vs ++ Array.replicate (fn.ntmps - vs.size) undef, defers := [] } w := by
    refine ⟨⟨fun d hd => by simp at hd, List.nodup_nil, fun l hl => (by cases hl), fun b l hb => (by cases hb)⟩, by simp; omega, fun i => ?_, by simp, by simp, fun n r hr => by simp [B0] at hr, by simp, by simp, by simp, ⟨rfl, rfl, rfl, Nat.le_refl _, fun _ _ _ => rfl, fun _ _ _ h => h⟩, hX, ⟨rfl, fun j f g hf => by simp [Aux.nil] at hf⟩, rfl⟩
    by_cases hi' : i < args.length
    · have hlt : i < vs.size := by omega
      have e1 : (vs ++ Array.replicate (fn.ntmps - vs.size) undef).getD i undef = vs[i] := by
        rw [Array.getD_eq_getD_getElem?, Array.getElem?_append_left hlt, Array.getElem?_eq_getElem hlt]; rfl
      simp only [e1, slots]
      have e2 : args.getD i .unk = args[i] := by simp [List.getD, hi']
      rw [e2]
      refine (hR i _ _ (List.getElem?_eq_getElem hi') (Array.getElem?_eq_getElem hlt)).anti fun b hb => ?_
      rcases hb with hb | ⟨p, hp, _⟩
      · exact hb
      · simp at hp
    · have : args.getD i .unk = .unk := by simp [List.getD, List.getElem?_eq_none (Nat.le_of_not_lt hi')]
      simp only [slots, this]; exact .unk _
  refine (callsIn_wide (n := 0)).1 (callsIn_of_wp_marks hf hb trivial ?_)
  have hsound := vcRun_sound (P := P) hm n none (· = C) (fun a w' => LeavesInM Fence.wide 0 P fn a.tmps (fun e w' => ∃ v, e = .returned v ∧ RS X B0 w' R v ∧ Ext w w') a.defers .returning w') (FinA P fn.results.toList R) (GoodC.one (C := C) rfl rfl)
    (fun s a w' hQ hs => by
      obtain ⟨C', rfl, β, hs⟩ := hs
      exact leaves (C := C) hQ hcl (fun v w'' h1 h2 => ⟨v, rfl, h1, ⟨h2.os, h2.tape, h2.output, h2.size, fun b hb => h2.block b hb (fun h => h)⟩⟩) _ a w' rfl hs) _ _ _ _ hrun ⟨C, rfl, B0, hst⟩
  simp only [Kont] at hsound
  refine Code.wpIn_mono (fun e a' w' he => ?_) hsound
  cases e with
  | normal => exact he
  | ret => exact he
  | _ => exact he.elim

end Go.Eng
