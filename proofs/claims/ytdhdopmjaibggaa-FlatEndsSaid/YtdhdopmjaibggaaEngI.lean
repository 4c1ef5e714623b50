/- The engine, part I: the run of a function's text on abstract states, and that it is right. -/
import Derived.Test.YtdhdopmjaibggaaEngH
import Derived.RangeFuncNested
import Derived.OrdersIn
import Derived.TacticsIn
set_option linter.unusedSimpArgs false
set_option linter.unusedVariables false
namespace Go.Eng
open Go Go.RowKit

universe u
/-- A term that the simplifier leaves alone till its turn comes: an argument that another one's type names is not rewritten. -/
class Tg {α : Sort u} (a : α) : Type
instance (priority := high) {α : Sort u} (a : α) : Tg a := ⟨⟩

/-- What is still to be done. -/
inductive It where
  | c (x : Code)
  | o (l : List Oper) (all : Array Oper)
  | blk (id : Nat)
  | lp (I : AState → Prop)

/-- A function's answer: for these arguments it returns this value, turns no block that was there, and writes nothing. -/
def PFun (P : Program) (f : FuncId) (args : List AV) (R : AV) : Prop :=
  (∃ fn, P.funcs[f]? = some fn ∧ (fn.name == "runtime.NumGoroutine") = false ∧ fn.body.isSome = true) ∧
  ∀ (X : Nat → Prop) (w : World) (vs : Array Value), (∀ b, X b → b < w.heap.size) → args.length = vs.size →
    (∀ (k : Nat) (s : AV) (u : Value), args[k]? = some s → vs[k]? = some u → RS X B0 w s u) →
    Calls P f vs w fun e w' => ∃ v, e = .returned v ∧ RS X B0 w' R v ∧ Ext w w'

def popTo (id : Nat) : List It → Option (List It)
  | .blk id' :: k => if id' = id then some k else popTo id k
  | _ :: k => popTo id k
  | [] => none

/-- Every function may be called; the frame is a round's, or none. -/
abbrev wd (ro : Option Nat) : Fence := { Fence.wide with round := ro }
theorem callsIn_wd {ro : Option Nat} {n : Nat} {P : Program} {f : FuncId} {args : Array Value} {w : World} {R : Ending → World → Prop} (h : Calls P f args w R) : CallsIn (wd ro) n P f args w R :=
  (callsIn_wide (n := n)).2 h

theorem wd_depth {ro : Option Nat} {n : Nat} (h : (wd ro).depth.isSome = true) : 1 ≤ n := absurd h Bool.false_ne_true

theorem wpIn_of_wp {ro : Option Nat} {n : Nat} {P : Program} {o : Oper} {a : Act} {w : World} {next : Act → World → Prop} {E : Exit → Act → World → Prop} (hd : ∀ c, o.op ≠ .defer c)
    (hrow : ∀ r args w', (execOp a.eval o).run P w ≠ .ok (.row r args) w') (h : o.wp P a w next E) : o.wpIn (wd ro) n P a w next E := by
  refine ⟨fun _ _ => trivial, ?_⟩
  rw [Oper.semAt_eq _ _ _ hd]
  unfold Oper.wp at h
  generalize (execOp a.eval o).run P w = r at h hrow
  cases r with
  | ok x w' =>
    cases x <;> simp only [Oper.upon, Oper.uponIn] at h ⊢ <;>
      first
        | exact h
        | exact ⟨wd_depth, callsIn_wd h⟩
        | exact absurd rfl (hrow _ _ _)
        | exact h.elim
  | halt x w' => cases x <;> simp only [Oper.upon, Oper.uponIn] at h ⊢ <;> exact h

/-- A family of contexts, for one run. -/
def Stc (Cs : Ctx → Prop) (s : AState) (a : Act) (w : World) : Prop := ∃ C, Cs C ∧ St C s a w

/-- What yield does, as the iterator sees it: it turns only what is not the iterator's (F), and what it is from then on. -/
structure YStep (C C' : Ctx) (O : Nat → Prop) (w w' : World) : Prop where
  W : C'.W = w'
  F : ∀ b, C'.F b → C.F b ∨ w.heap.size ≤ b
  Pm : C'.Pm = O
  Flt : ∀ b, C'.F b → b < w'.heap.size
  fr : Fr C.F w w'
  sv : C'.sv = C.sv

structure GoodC (P : Program) (ro : Option Nat) (Cs : Ctx → Prop) : Prop where
  prog : ∀ C, Cs C → C.P = P
  rnd : ∀ C, Cs C → C.ro = ro
  yld : ∀ (C : Ctx) (l : Nat) (as : List AV) (rest : List (List AV)) (O : Nat → Prop) (w : World) (vs : Array Value), Cs C → C.y = some (l, as :: rest) → Fr C.Pm C.W w →
    (∀ b, O b → (C.W.heap.size ≤ b ∨ C.Pm b) ∧ ¬ C.F b ∧ b < w.heap.size) → as.length = vs.size →
    (∀ (k : Nat) (s : AV) (u : Value), as[k]? = some s → vs[k]? = some u → RS (fun b => C.F b ∨ O b) B0 w s u) →
    YieldAt Fence.wide 0 P l vs w fun e w' => ∃ C' b, e = .returned (.bool b) ∧ Cs C' ∧ YStep C C' O w w' ∧ C'.y = if b then some (l, rest) else none

theorem GoodC.one {P : Program} {C : Ctx} (hP : C.P = P) (hy : C.y = none) : GoodC P C.ro (· = C) :=
  ⟨fun _ h => h ▸ hP, fun _ h => h ▸ rfl, fun _ _ _ _ _ _ _ h hy' => by subst h; rw [hy] at hy'; cases hy'⟩

section
variable (P : Program)

/-- Less is known. -/
def Le (s s' : AState) : Prop := ∀ (C : Ctx) (a : Act) (w : World), St C s a w → St C s' a w

def AtLoop (rec : List It → (AState → Prop) → AState → Prop) (b : Code) (k : List It) (Q : AState → Prop) (s : AState) [Tg k] [Tg Q] : Prop :=
  ∃ (ι : Type) (inv : ι → AState) (μ : ι → Nat), (∃ i, Le s (inv i)) ∧ ∀ i, rec (.c b :: .lp (fun s' => ∃ j, μ j < μ i ∧ Le s' (inv j)) :: k) Q (inv i)

/-- An operation that the run itself does not know: it is shown apart. -/
def AtOp (rec : List It → (AState → Prop) → AState → Prop) (o : Oper) (k : List It) (Q : AState → Prop) (s : AState) [Tg k] [Tg Q] : Prop :=
  ∀ (ro : Option Nat) (Cs : Ctx → Prop) (next : Act → World → Prop) (E : Exit → Act → World → Prop), GoodC P ro Cs → (∀ s' a' w', rec k Q s' → Stc Cs s' a' w' → next a' w') → ∀ a w, Stc Cs s a w → o.wpIn (wd ro) 0 P a w next E

/-- A call of a function's value. -/
def AtFn (rec : List It → (AState → Prop) → AState → Prop) (o : Oper) (f : FuncId) (as : List AV) (k : List It) (Q : AState → Prop) (s : AState) [Tg k] [Tg Q] : Prop :=
  (∃ fo xs ts caps, o.op = .call ⟨.value fo, xs, ts⟩ ∧ evA s.t fo = .fn f caps ∧ as = xs.toList.map (evA s.t) ++ caps) → AtOp P rec o k Q s

/-- A call of yield. -/
def AtYl (rec : List It → (AState → Prop) → AState → Prop) (o : Oper) (l : Nat) (x y : Array Value) (as : List AV) (k : List It) (Q : AState → Prop) (s : AState) [Tg k] [Tg Q] : Prop :=
  (∃ fo xs ts, o.op = .call ⟨.value fo, xs, ts⟩ ∧ evA s.t fo = .v (.func (.yield l) x y) ∧ as = xs.toList.map (evA s.t)) → AtOp P rec o k Q s

/-- A slot whose operation was passed over. -/
abbrev un : AV := .v (.tuple #[])
def guardA (all : Array Oper) (t : Nat → AV) (o : Oper) : Option (Bool × Bool) :=
  match o.guard with
  | none => none
  | some (j, want) =>
    match (all[j]?).bind (·.dst) with
    | some d => (match t d with | .v (.bool b) => some (b, want) | .v (.tuple ⟨[]⟩) => some (!want, want) | _ => none)
    | none => none

def opK (rec : List It → (AState → Prop) → AState → Prop) (o : Oper) (k : List It) (Q : AState → Prop) (s : AState) : Prop :=
  match o.op with
  | .box _ _ | .alloc _ | .buildSlice _ _ _ | .makeSlice _ _ _ => nev P (evA s.t) o.op s.k fun av b => rec k Q (putA (pushA s b) o.dst av)
  | .store t p x => stK P (evA s.t) (find s.h) t p x fun n b => rec k Q (putA { s with h := setN s.h n b } o.dst .unk)
  | .call ⟨.builtin .append, xs, ts⟩ => apK P (evA s.t) (find s.h) xs.toList ts.toList fun ns z l => rec k Q (putA (pushA { s with h := dropN ns s.h } ⟨z, l⟩) o.dst (.sl s.k 0 l.length))
  | .call ⟨.value f, xs, _⟩ => (match evA s.t f with
    | .fn f caps => AtFn P rec o f (xs.toList.map (evA s.t) ++ caps) k Q s
    | .v (.func (.yield l) x y) => AtYl P rec o l x y (xs.toList.map (evA s.t)) k Q s
    | _ => False)
  | .convert t u x => if (ikT P u).isSome = true then qev P (evA s.t) (find s.h) o.op fun av => rec k Q (putA s o.dst av) else AtOp P rec o k Q s
  | .makeMap _ _ | .lookup _ _ _ _ | .mapUpdate _ _ _ _ | .range _ _ | .next _ _ => AtOp P rec o k Q s
  | .call ⟨.builtin .copy, _, _⟩ | .call ⟨.builtin .clear, _, _⟩ | .call ⟨.builtin .delete, _, _⟩ => AtOp P rec o k Q s
  | _ => qev P (evA s.t) (find s.h) o.op fun av => rec k Q (putA s o.dst av)

/-! ### What the rest of the work means on the machine -/
variable (Cs : Ctx → Prop) (ro : Option Nat) (Fin : Act → World → Prop)

def kpost (r : (Act → World → Prop) × (Nat → Act → World → Prop)) : Exit → Act → World → Prop
  | .normal, a, w => r.1 a w
  | .exit id, a, w => r.2 id a w
  | .ret, a, w => Fin a w
  | _, _, _ => False

def Kont : List It → (Act → World → Prop) × (Nat → Act → World → Prop)
  | [] => (Fin, fun _ _ _ => False)
  | .c c :: k => (Code.wpIn (wd ro) 0 P c (kpost Fin (Kont k)), (Kont k).2)
  | .o l all :: k => (wpListIn (wd ro) 0 P all (kpost Fin (Kont k)) l, (Kont k).2)
  | .blk id :: k => ((Kont k).1, fun id' a w => if id' = id then (Kont k).1 a w else (Kont k).2 id' a w)
  | .lp I :: k => (fun a w => ∃ s, Stc Cs s a w ∧ I s, (Kont k).2)

theorem kont_pop (id : Nat) : ∀ (k k' : List It), popTo id k = some k' → ∀ a w, (Kont P Cs ro Fin k').1 a w → (Kont P Cs ro Fin k).2 id a w
  | [], k', h, a, w, _ => by simp [popTo] at h
  | .blk id' :: k, k', h, a, w, hk => by
    simp only [popTo] at h
    simp only [Kont]
    split at h
    · rename_i e; cases h; rw [if_pos e.symm]; exact hk
    · rename_i e; rw [if_neg (fun e' => e e'.symm)]; exact kont_pop id k k' h a w hk
  | .c _ :: k, k', h, a, w, hk => kont_pop id k k' h a w hk
  | .o _ _ :: k, k', h, a, w, hk => kont_pop id k k' h a w hk
  | .lp _ :: k, k', h, a, w, hk => kont_pop id k k' h a w hk
end

section
variable (P : Program)
/-- A run is right. -/
def Snd (rec : List It → (AState → Prop) → AState → Prop) : Prop :=
  ∀ (ro : Option Nat) (Cs : Ctx → Prop) (Fin : Act → World → Prop) (Q : AState → Prop), GoodC P ro Cs → (∀ s a w, Q s → Stc Cs s a w → Fin a w) → ∀ todo s a w, rec todo Q s → Stc Cs s a w → (Kont P Cs ro Fin todo).1 a w

/-- A piece of text that the run itself does not walk: it is shown apart. -/
def AtCode (rec : List It → (AState → Prop) → AState → Prop) (c : Code) (k : List It) (Q : AState → Prop) (s : AState) [Tg k] [Tg Q] : Prop :=
  ∀ (ro : Option Nat) (Cs : Ctx → Prop) (Fin : Act → World → Prop), GoodC P ro Cs → P.follows .mixedOrders = true → Snd P rec → (∀ s a w, Q s → Stc Cs s a w → Fin a w) →
    ∀ a w, Stc Cs s a w → c.wpIn (wd ro) 0 P (kpost Fin (Kont P Cs ro Fin k)) a w

def vcRun : Nat → List It → (AState → Prop) → AState → Prop
  | 0, _, _, _ => False
  | n + 1, todo, Q, s =>
    match todo with
    | [] => Q s
    | .c .skip :: k => vcRun n k Q s
    | .c (.label _) :: k => vcRun n k Q s
    | .c .ret :: _ => Q s
    | .c (.seq a b) :: k => vcRun n (.c a :: .c b :: k) Q s
    | .c (.cond c a b) :: k => (match evA s.t c with | .v (.bool z) => (z = true → vcRun n (.c a :: k) Q s) ∧ (z = false → vcRun n (.c b :: k) Q s) | _ => False)
    | .c (.block id b) :: k => vcRun n (.c b :: .blk id :: k) Q s
    | .c (.exit id) :: k => (match popTo id k with | some k' => vcRun n k' Q s | none => False)
    | .c (.region _ ops false) :: k => vcRun n (.o ops.toList ops :: k) Q s
    | .c (.region id ops true) :: k => AtCode P (vcRun n) (.region id ops true) k Q s
    | .c (.rangeFunc f ps as b) :: k => AtCode P (vcRun n) (.rangeFunc f ps as b) k Q s
    | .c (.loop b) :: k => AtLoop (vcRun n) b k Q s
    | .c _ :: _ => False
    | .blk _ :: k => vcRun n k Q s
    | .lp I :: _ => I s
    | .o [] _ :: k => vcRun n k Q s
    | .o (o :: r) all :: k =>
      (match o.guard with
       | none => opK P (vcRun n) o (.o r all :: k) Q s
       | some _ => (match guardA all s.t o with
          | some (b, want) => (b = want → opK P (vcRun n) o (.o r all :: k) Q s) ∧ (b ≠ want → vcRun n (.o r all :: k) Q (putA s o.dst un))
          | none => False))
end

theorem args_get {X : Nat → Prop} {β : Bt} {w : World} {ρ : Operand → AV} {ρc : Operand → Value} (hρ : ∀ x, RS X β w (ρ x) (ρc x)) (xs : Array Operand) :
    (xs.toList.map ρ).length = (xs.map ρc).size ∧ ∀ (k : Nat) (s : AV) (u : Value), (xs.toList.map ρ)[k]? = some s → (xs.map ρc)[k]? = some u → RS X β w s u := by
  refine ⟨by simp, fun k s u hs hu => ?_⟩
  simp only [List.getElem?_map, Array.getElem?_map, Array.getElem?_toList] at hs hu
  cases hc : xs[k]? with
  | none => simp [hc] at hs
  | some c => simp only [hc, Option.map_some, Option.some.injEq] at hs hu; subst hs; subst hu; exact hρ c

/-- A loop whose rounds are named. -/
theorem wp_loop_fam {F : Fence} {n : Nat} {P : Program} {Q : Exit → Act → World → Prop} {a : Act} {w : World} {c : Code} {ι : Type} (I : ι → Act → World → Prop) (μ : ι → Nat) (i0 : ι) (h0 : I i0 a w)
    (round : ∀ i a w, I i a w → c.wpIn F n P (Exit.then (fun a w => ∃ j, μ j < μ i ∧ I j a w) Q) a w) : (Code.loop c).wpIn F n P Q a w := by
  intro b k cs hro hb hr
  have key : ∀ m i a w, μ i = m → I i a w →
      ∃ e a' w', Q e a' w' ∧ ArrivesIn (Machine.fenced P F) P (lone (b.atR a (.code c :: .inLoop c :: k)) cs w) b k cs e a' w' := by
    intro m
    induction m using Nat.strongRecOn with
    | _ m ih =>
      intro i a w hn hI
      obtain ⟨e, a₁, w₁, hq, harr⟩ := round i a w hI b (.inLoop c :: k) cs hro hb hr
      cases e with
      | normal =>
        obtain ⟨j, hlt, hI₁⟩ := hq
        obtain ⟨e₂, a₂, w₂, hq₂, harr₂⟩ := ih (μ j) (hn ▸ hlt) j a₁ w₁ rfl hI₁
        exact ⟨e₂, a₂, w₂, hq₂, .of_steps (StepsIn.trans harr (.one (fenced_calm hb hr rfl) stepR_inLoop)) harr₂⟩
      | exit id => exact ⟨_, a₁, w₁, hq, .pass (x := .inLoop c) rfl (fun _ _ => .inl (by simp)) harr⟩
      | goto l => exact ⟨_, a₁, w₁, hq, .pass (x := .inLoop c) rfl (fun _ _ => .inl (by simp)) harr⟩
      | ret => exact ⟨_, a₁, w₁, hq, .pass (x := .inLoop c) rfl (fun _ _ => .inl (by simp)) harr⟩
      | panic ch => exact ⟨_, a₁, w₁, hq, .pass (x := .inLoop c) rfl (fun _ _ => .inl (by simp)) harr⟩
      | outgrown => exact ⟨_, a₁, w₁, hq, .pass (x := .inLoop c) rfl (fun _ _ => .inl (by simp)) harr⟩
  obtain ⟨e, a', w', hq, harr⟩ := key _ i0 a w rfl h0
  exact ⟨e, a', w', hq, .of_steps (.one (fenced_calm hb hr rfl) stepR_loop) harr⟩

theorem wanted_undef {tmps : Array Value} {d : Nat} (hv : tmps.getD d undef = .tuple ⟨[]⟩) (want : Bool) :
    ((match tmps[d]? with | some (.bool b) => some b | _ => none) == some want) = decide ((!want) = want) := by
  have : decide ((!want) = want) = false := by cases want <;> rfl
  rw [this]
  cases hq : tmps[d]? with
  | none => cases want <;> rfl
  | some y =>
    rw [Array.getD_eq_getD_getElem?, hq] at hv
    simp only [Option.getD_some] at hv
    subst hv
    cases want <;> rfl

theorem opK_sound {P : Program} {Cs : Ctx → Prop} {ro : Option Nat} {s : AState} {a : Act} {w : World} {rec : List It → (AState → Prop) → AState → Prop} {o : Oper} {k : List It} {Q : AState → Prop} {next : Act → World → Prop} {E : Exit → Act → World → Prop}
    (hg : GoodC P ro Cs) (hs : Stc Cs s a w) (hk : opK P rec o k Q s) (hnext : ∀ s' a' w', rec k Q s' → Stc Cs s' a' w' → next a' w') : o.wpIn (wd ro) 0 P a w next E := by
  obtain ⟨C, hC, hs⟩ := hs
  have hP := hg.prog C hC
  subst hP
  have hall : Stc Cs s a w := ⟨C, hC, hs⟩
  obtain ⟨β, h⟩ := hs
  have hd : ∀ c, o.op ≠ .defer c := by
    intro c hc
    unfold opK at hk
    rw [hc] at hk
    exact hk
  have fin : ∀ {r : Result Next}, (execOp a.eval o).run C.P w = r → Oper.uponIn (wd ro) 0 C.P o a next E r → o.wpIn (wd ro) 0 C.P a w next E := by
    rintro r hr hu
    refine ⟨fun _ _ => trivial, ?_⟩
    rw [Oper.semAt_eq _ _ _ hd, hr]; exact hu
  have quiet : qev C.P (evA s.t) (find s.h) o.op (fun av => rec k Q (putA s o.dst av)) → o.wpIn (wd ro) 0 C.P a w next E := by
    intro hq
    obtain ⟨av, u, hK, hr, hR⟩ := qev_sound (fun x => h.read x) (fun n b hb => h.look n b hb) hq
    exact fin hr (hnext _ _ _ hK ⟨C, hC, β, h.put hR o.dst⟩)
  have newb : nev C.P (evA s.t) o.op s.k (fun av b => rec k Q (putA (pushA s b) o.dst av)) → o.wpIn (wd ro) 0 C.P a w next E := by
    intro hq
    obtain ⟨av, b, u, c, t, hK, hr, hN, hV⟩ := nev_sound (P := C.P) (fun x => h.read x) hq
    have h' := h.push (t := t) hN
    exact fin hr (hnext _ _ _ hK ⟨C, hC, _, h'.put (hV _ _ _ (by simp [updB]) (by simp [World.shape?])) o.dst⟩)
  unfold opK at hk
  split at hk
  · exact newb hk
  · exact newb hk
  · exact newb hk
  · exact newb hk
  · rename_i t p x ho
    obtain ⟨n, b, w', hK, hr, h'⟩ := stK_sound h ho hk
    exact fin hr (hnext _ _ _ hK ⟨C, hC, β, h'.put (.unk _) o.dst⟩)
  · rename_i xs ts ho
    obtain ⟨ns, z, l, u, w', β', hK, hr, h', hR, _⟩ := apK_sound h ho hk
    exact fin hr (hnext _ _ _ hK ⟨C, hC, β', h'.put hR o.dst⟩)
  · rename_i fo xs ats ho
    split at hk
    · rename_i f caps hf
      exact hk ⟨fo, xs, ats, caps, ho, hf, rfl⟩ ro Cs next E hg hnext a w hall
    · rename_i l x y hf
      exact hk ⟨fo, xs, ats, ho, hf, rfl⟩ ro Cs next E hg hnext a w hall
    · exact hk.elim
  · split at hk
    · exact quiet hk
    · exact hk ro Cs next E hg hnext a w hall
  · exact hk ro Cs next E hg hnext a w hall
  · exact hk ro Cs next E hg hnext a w hall
  · exact hk ro Cs next E hg hnext a w hall
  · exact hk ro Cs next E hg hnext a w hall
  · exact hk ro Cs next E hg hnext a w hall
  · exact hk ro Cs next E hg hnext a w hall
  · exact hk ro Cs next E hg hnext a w hall
  · exact hk ro Cs next E hg hnext a w hall
  · exact quiet hk

theorem vcRun_sound {P : Program} (hm : P.follows .mixedOrders = true) : ∀ (n : Nat), Snd P (vcRun P n) := by
  intro n
  induction n with
  | zero => intro ro Cs Fin Q hg hQ todo s a w h _; exact h.elim
  | succ n ih0 =>
    intro ro Cs Fin Q hg hQ todo s a w h hs
    have ih := ih0 ro Cs Fin Q hg hQ
    unfold vcRun at h
    split at h
    · exact hQ s a w h hs
    · rename_i k; exact wpIn_skip (ih k s a w h hs)
    · rename_i l k; exact wpIn_label (ih k s a w h hs)
    · rename_i k; exact wpIn_ret (hQ s a w h hs)
    · rename_i x y k
      have := ih _ s a w h hs
      simp only [Kont] at this
      refine wpIn_seq (Code.wpIn_mono (fun e a w he => ?_) this)
      cases e <;> first | exact he | exact he.elim
    · rename_i c x y k
      split at h
      case h_2 => exact h.elim
      rename_i z hz
      obtain ⟨C, hC, β, hst⟩ := hs
      have hc := hst.read c
      rw [hz] at hc
      generalize hv : a.eval c = vc at hc
      cases hc
      exact wpIn_cond_split hv (fun hz => ih _ s a w (h.1 hz) ⟨C, hC, β, hst⟩) (fun hz => ih _ s a w (h.2 hz) ⟨C, hC, β, hst⟩)
    · rename_i id b k
      have := ih _ s a w h hs
      simp only [Kont] at this
      refine wpIn_block (Code.wpIn_mono (fun e a w he => ?_) this)
      cases e with
      | exit id' =>
        simp only [kpost, Exit.inBlock] at he ⊢
        split
        · rename_i e; rw [if_pos e] at he; exact he
        · rename_i e; rw [if_neg e] at he; exact he
      | _ => first | exact he | exact he.elim
    · rename_i id k
      split at h
      case h_2 => exact h.elim
      rename_i k' hk'
      exact wpIn_exit (kont_pop P Cs ro Fin id k k' hk' a w (ih k' s a w h hs))
    · rename_i id ops k
      exact wpIn_region_list (ih _ s a w h hs)
    · rename_i id ops k
      exact h ro Cs Fin hg hm ih0 hQ a w hs
    · rename_i f ps as b k
      exact h ro Cs Fin hg hm ih0 hQ a w hs
    · rename_i b k
      obtain ⟨ι, inv, μ, ⟨i0, h0⟩, hr⟩ := h
      refine wp_loop_fam (fun i a w => Stc Cs (inv i) a w) μ i0 (let ⟨C, hC, hst⟩ := hs; ⟨C, hC, h0 C a w hst⟩) fun i a w hi => ?_
      have := ih _ (inv i) a w (hr i) hi
      simp only [Kont] at this
      refine Code.wpIn_mono (fun e a w he => ?_) this
      cases e with
      | normal =>
        obtain ⟨s', ⟨C, hC, hs'⟩, j, hj, hle⟩ := he
        exact ⟨j, hj, C, hC, hle C a w hs'⟩
      | _ => first | exact he | exact he.elim
    · exact h.elim
    · rename_i id k; exact ih k s a w h hs
    · rename_i I k; exact ⟨s, hs, h⟩
    · rename_i all k
      show wpListIn (wd ro) 0 P all (kpost Fin (Kont P Cs ro Fin k)) [] a w
      exact wpListIn_nil (Q := kpost Fin (Kont P Cs ro Fin k)) (ih k s a w h hs)
    · rename_i o r all k
      simp only [Kont]
      have hgo : opK P (vcRun P n) o (.o r all :: k) Q s → ∀ K : Act → World → Prop, (∀ a w, wpListIn (wd ro) 0 P all (kpost Fin (Kont P Cs ro Fin k)) r a w → K a w) → o.wpIn (wd ro) 0 P a w K (kpost Fin (Kont P Cs ro Fin k)) := by
        intro ho K hK
        exact opK_sound hg hs ho fun s' a' w' hrec hst => hK _ _ (ih _ s' a' w' hrec hst)
      split at h
      · rename_i hg'; exact wpListIn_plain hg' (hgo h)
      · rename_i g hg'
        split at h
        case h_2 => exact h.elim
        rename_i b want hgd
        have hgo' := hgo
        obtain ⟨C, hC, β, hst⟩ := hs
        have hw : Region.wanted o (yielded all a.tmps) = decide (b = want) := by
          unfold guardA at hgd
          obtain ⟨j, want'⟩ := g
          rw [hg'] at hgd
          simp only at hgd
          split at hgd
          case h_2 => cases hgd
          rename_i d hd
          split at hgd
          case h_3 => cases hgd
          case h_2 =>
            rename_i hb'
            simp only [Option.some.injEq, Prod.mk.injEq] at hgd
            obtain ⟨rfl, rfl⟩ := hgd
            simp only [Region.wanted, hg', yielded, hd, Option.bind_some]
            have hx := hst.tm d
            rw [hb'] at hx
            generalize hv : a.tmps.getD d undef = va at hx
            cases hx
            exact wanted_undef hv want'
          rename_i b' hb'
          simp only [Option.some.injEq, Prod.mk.injEq] at hgd
          obtain ⟨rfl, rfl⟩ := hgd
          simp only [Region.wanted, hg', yielded, hd, Option.bind_some]
          have hx := hst.tm d
          rw [hb'] at hx
          have hu : a.tmps[d]? = some (.bool b') := by
            generalize hv : a.tmps.getD d undef = va at hx
            cases hx
            cases hq : a.tmps[d]? with
            | none =>
              rw [Array.getD_eq_getD_getElem?, hq] at hv
              cases hv
            | some y =>
              rw [Array.getD_eq_getD_getElem?, hq] at hv
              simp only [Option.getD_some] at hv
              rw [hv]
          rw [hu]
          cases b' <;> cases want' <;> rfl
        refine wpListIn_step fun K hK => ?_
        rw [hw]
        by_cases hbw : b = want
        · simp only [hbw, decide_true, if_true]
          exact hgo' (h.1 hbw) K hK
        · simp only [hbw, decide_false, Bool.false_eq_true, if_false]
          exact ⟨fun _ _ => trivial, hK _ _ (ih _ _ _ _ (h.2 hbw) ⟨C, hC, β, hst.put (.v _) o.dst⟩)⟩

theorem AtFn.pure' {P : Program} {rec : List It → (AState → Prop) → AState → Prop} {o : Oper} {f : FuncId} {as as' : List AV} {k : List It} {Q : AState → Prop} {s : AState} {R : AV} {ns : List Nat}
    (has : as.map (frzA (find s.h) 3) = as') (hns : as.flatMap (namesA (find s.h) 3) = ns) (hfun : PFun P f as' R) (hcl : ∀ a ∈ as', Cl a)
    (hk : rec k Q (putA { s with h := dropN ns s.h } o.dst R)) : AtFn P rec o f as k Q s := by
  rintro ⟨fo, xs, ats, caps, ho, hf, rfl⟩ ro Cs next E hg hnext a w ⟨C, hC, β, h⟩
  have hP := hg.prog C hC
  subst hP; subst has; subst hns
  refine ⟨fun _ _ => trivial, ?_⟩
  rw [Oper.semAt_eq _ _ _ (fun c hc => by rw [ho] at hc; cases hc)]
  obtain ⟨⟨fn, hfn, hname, hbody⟩, hcall⟩ := hfun
  have hfr := h.read fo
  rw [hf] at hfr
  generalize hv : a.eval fo = va at hfr
  cases hfr with
  | fn hl hR =>
    rename_i vs
    have hd := h.drop ((xs.toList.map (evA s.t) ++ caps).flatMap (namesA (find s.h) 3))
    obtain ⟨ha1, ha2⟩ := args_get (fun x => h.read x) xs
    have hrun : (execOp a.eval o).run C.P w = .ok (.enter f (xs.map a.eval ++ vs)) w := by
      obtain ⟨_, op, _, _, _, _⟩ := o
      simp only at ho; subst ho
      have hnb : ¬ fn.body = none := by cases hb : fn.body <;> simp_all
      have hne : ¬ fn.name = "runtime.NumGoroutine" := by simpa using hname
      simp [execOp, resolve, hv, Deferred.ofValue, invoke, callFunc, hfn, hne, hnb]
    rw [hrun]
    have hX : ∀ b, XOf C.F β (dropN ((xs.toList.map (evA s.t) ++ caps).flatMap (namesA (find s.h) 3)) s.h) b → b < w.heap.size := by
      rintro b (hb | ⟨p, hp, o', e, hb⟩)
      · exact Nat.lt_of_lt_of_le (h.Flt b hb) h.fr.size
      · exact h.lt_size (mem_dropN.1 hp).1 hb
    refine ⟨wd_depth, callsIn_wd ?_⟩
    refine Calls.mono (hcall _ w (xs.map a.eval ++ vs) hX (by simp at ha1 hl ⊢; omega) (fun q sv u hsv hu => ?_)) ?_
    · simp only [List.getElem?_map, Option.map_eq_some_iff] at hsv
      obtain ⟨x, hx, rfl⟩ := hsv
      have hmem : x ∈ xs.toList.map (evA s.t) ++ caps := List.mem_of_getElem? hx
      have hrs : RS (XOf C.F β s.h) β w x u := by
        by_cases hq : q < (xs.toList.map (evA s.t)).length
        · rw [List.getElem?_append_left hq] at hx
          rw [Array.getElem?_append_left (by omega)] at hu
          exact ha2 q x u hx hu
        · rw [List.getElem?_append_right (by omega)] at hx
          rw [Array.getElem?_append_right (by omega)] at hu
          rw [← ha1] at hu
          exact hR _ x u hx hu
      exact (frzA_sound h _ 3 x u hrs (fun n hn => List.mem_flatMap.2 ⟨x, hmem, hn⟩)).closed (hcl _ (List.mem_map_of_mem hmem)) B0
    · rintro e w' ⟨v, rfl, hRv, hext⟩
      have hRv' : RS (XOf C.F β (dropN ((xs.toList.map (evA s.t) ++ caps).flatMap (namesA (find s.h) 3)) s.h)) β w' R v :=
        hRv.mono ⟨fun _ h h' => absurd h h', (fun _ _ h => by cases h), Nat.le_refl _, fun _ _ _ => rfl, fun _ _ _ h => h⟩
      exact hnext _ _ _ hk ⟨C, hC, β, (hd.ext hext).put hRv' o.dst⟩
end Go.Eng
