/- The engine, part L: the rest of the rewrite rules. -/
import Derived.Test.YtdhdopmjaibggaaEngK
set_option linter.unusedSimpArgs false
set_option linter.unusedVariables false
namespace Go.Eng
open Go Go.RowKit

/-! ### What is looked at by rewriting alone stays shut -/
section
theorem vcRun_congr {P : Program} {n : Nat} {k : List It} {Q : AState → Prop} {s : AState} : vcRun P n k Q s = vcRun P n k Q s := rfl
theorem opK_congr {P : Program} {rec : List It → (AState → Prop) → AState → Prop} {o : Oper} {k : List It} {Q : AState → Prop} {s : AState} : opK P rec o k Q s = opK P rec o k Q s := rfl
theorem qev_congr {P : Program} {ρ : Operand → AV} {H : Nat → Option Blk} {o : Op} {K : AV → Prop} : qev P ρ H o K = qev P ρ H o K := rfl
theorem nev_congr {P : Program} {ρ : Operand → AV} {o : Op} {n : Nat} {K : AV → Blk → Prop} : nev P ρ o n K = nev P ρ o n K := rfl
theorem stK_congr {P : Program} {ρ : Operand → AV} {H : Nat → Option Blk} {t : TypeId} {p x : Operand} {K : Nat → Blk → Prop} : stK P ρ H t p x K = stK P ρ H t p x K := rfl
theorem apK_congr {P : Program} {ρ : Operand → AV} {H : Nat → Option Blk} {xs : List Operand} {ts : List TypeId} {K : List Nat → Nat → List (List AV) → Prop} : apK P ρ H xs ts K = apK P ρ H xs ts K := rfl
theorem resK_congr {P : Program} {s : AState} {rs : List ResultVar} {K : List AV → Prop} : resK P s rs K = resK P s rs K := rfl
theorem loadE_congr {P : Program} {K : AV → Prop} {t : TypeId} {c : List AV} {j : Nat} : loadE P K t c j = loadE P K t c j := rfl
theorem binV_congr {o : BinOp} {a b : Value} {K : AV → Prop} : binV o a b K = binV o a b K := rfl
theorem AtOp_congr {P : Program} {rec : List It → (AState → Prop) → AState → Prop} {o : Oper} {k : List It} {Q : AState → Prop} {s : AState} : AtOp P rec o k Q s = AtOp P rec o k Q s := rfl
theorem AtFn_congr {P : Program} {rec : List It → (AState → Prop) → AState → Prop} {o : Oper} {f : FuncId} {as : List AV} {k : List It} {Q : AState → Prop} {s : AState} : AtFn P rec o f as k Q s = AtFn P rec o f as k Q s := rfl
theorem AtYl_congr {P : Program} {rec : List It → (AState → Prop) → AState → Prop} {o : Oper} {l : Nat} {p q : Array Value} {as : List AV} {k : List It} {Q : AState → Prop} {s : AState} : AtYl P rec o l p q as k Q s = AtYl P rec o l p q as k Q s := rfl
theorem AtLoop_congr {rec : List It → (AState → Prop) → AState → Prop} {b : Code} {k : List It} {Q : AState → Prop} {s : AState} : AtLoop rec b k Q s = AtLoop rec b k Q s := rfl
theorem AtCode_congr {P : Program} {rec : List It → (AState → Prop) → AState → Prop} {c : Code} {k : List It} {Q : AState → Prop} {s : AState} : AtCode P rec c k Q s = AtCode P rec c k Q s := rfl
end

/-! ### Steps of the run -/
section
variable (P : Program) (n : Nat) (k : List It) (Q : AState → Prop) (s : AState)
theorem vc_end : vcRun P (n + 1) [] Q s = Q s := rfl
theorem vc_skip : vcRun P (n + 1) (.c .skip :: k) Q s = vcRun P n k Q s := rfl
theorem vc_label (l : Nat) : vcRun P (n + 1) (.c (.label l) :: k) Q s = vcRun P n k Q s := rfl
theorem vc_ret : vcRun P (n + 1) (.c .ret :: k) Q s = Q s := rfl
theorem vc_seq (a b : Code) : vcRun P (n + 1) (.c (.seq a b) :: k) Q s = vcRun P n (.c a :: .c b :: k) Q s := rfl
theorem vc_cond (c : Operand) (a b : Code) : vcRun P (n + 1) (.c (.cond c a b) :: k) Q s = bK (evA s.t c) fun z => brK z (vcRun P n (.c a :: k) Q s) (vcRun P n (.c b :: k) Q s) := by
  simp only [vcRun, bK, brK]
  split
  · rename_i z hz; rw [hz]
  · rename_i h; cases hx : evA s.t c with
    | v a => cases a <;> first | rfl | exact absurd hx (h _)
    | _ => rfl
theorem vc_block (id : Nat) (b : Code) : vcRun P (n + 1) (.c (.block id b) :: k) Q s = vcRun P n (.c b :: .blk id :: k) Q s := rfl
theorem vc_exit (id : Nat) : vcRun P (n + 1) (.c (.exit id) :: k) Q s = optK (popTo id k) fun k' => vcRun P n k' Q s := by
  simp only [vcRun, optK]
  cases popTo id k <;> rfl
theorem vc_region (id : Nat) (ops : Array Oper) : vcRun P (n + 1) (.c (.region id ops false) :: k) Q s = vcRun P n (.o ops.toList ops :: k) Q s := rfl
theorem vc_draw (id : Nat) (ops : Array Oper) : vcRun P (n + 1) (.c (.region id ops true) :: k) Q s = AtCode P (vcRun P n) (.region id ops true) k Q s := rfl
theorem vc_rangeFunc (f : Operand) (ps : Array Tmp) (as b : Code) : vcRun P (n + 1) (.c (.rangeFunc f ps as b) :: k) Q s = AtCode P (vcRun P n) (.rangeFunc f ps as b) k Q s := rfl
theorem vc_loop (b : Code) : vcRun P (n + 1) (.c (.loop b) :: k) Q s = AtLoop (vcRun P n) b k Q s := rfl
theorem vc_blk (id : Nat) : vcRun P (n + 1) (.blk id :: k) Q s = vcRun P n k Q s := rfl
theorem vc_lp (I : AState → Prop) : vcRun P (n + 1) (.lp I :: k) Q s = I s := rfl
theorem vc_o_nil (all : Array Oper) : vcRun P (n + 1) (.o [] all :: k) Q s = vcRun P n k Q s := rfl
theorem vc_o (d : Option Nat) (op : Op) (ty : TypeId) (pos : String) (af : Array Edge) (r : List Oper) (all : Array Oper) :
    vcRun P (n + 1) (.o (⟨d, op, ty, pos, af, none⟩ :: r) all :: k) Q s = opK P (vcRun P n) ⟨d, op, ty, pos, af, none⟩ (.o r all :: k) Q s := rfl
theorem upd_same (t : Nat → AV) (e : Nat) (x : AV) (h : t e = x) : upd t e x = t := by
  funext i; unfold upd; split
  · rename_i h'; rw [h', h]
  · rfl
/-- Looking at a guard. -/
def gdK (x : AV) (want : Bool) (a b c : Prop) [Tg a] [Tg b] [Tg c] : Prop := match x with | .v (.bool z) => brK (z == want) a b | .v (.tuple ⟨[]⟩) => c | _ => False
theorem gdK_b (z want : Bool) (a b c : Prop) : gdK (.v (.bool z)) want a b c = brK (z == want) a b := rfl
theorem gdK_u (want : Bool) (a b c : Prop) : gdK (.v (.tuple #[])) want a b c = c := rfl
theorem vc_o_guard (d : Option Nat) (op : Op) (ty : TypeId) (pos : String) (af : Array Edge) (j : Nat) (want : Bool) (r : List Oper) (all : Array Oper) :
    vcRun P (n + 1) (.o (⟨d, op, ty, pos, af, some (j, want)⟩ :: r) all :: k) Q s = optK ((all[j]?).bind (·.dst)) fun e => gdK (s.t e) want
      (force (⟨s.n, upd s.t e (.v (.bool want)), s.h, s.k, s.x⟩ : AState) fun s => opK P (vcRun P n) ⟨d, op, ty, pos, af, some (j, want)⟩ (.o r all :: k) Q s) (force (putA ⟨s.n, upd s.t e (.v (.bool (!want))), s.h, s.k, s.x⟩ d un) fun s' => vcRun P n (.o r all :: k) Q s')
      (force (putA s d un) fun s' => vcRun P n (.o r all :: k) Q s') := by
  simp only [vcRun, guardA, optK, gdK, brK, force]
  cases (all[j]?).bind (·.dst) with
  | none => rfl
  | some e =>
    simp only
    cases hx : s.t e with
    | v a => cases a with
      | bool b =>
        obtain ⟨n', t', h', k', x'⟩ := s
        simp only at hx
        cases b <;> cases want <;> simp [upd_same t' e _ hx, brK]
      | tuple l =>
        obtain ⟨l⟩ := l
        cases l with
        | nil => cases want <;> simp
        | cons _ _ => rfl
      | _ => rfl
    | _ => rfl
theorem popTo_blk (id id' : Nat) : popTo id (.blk id' :: k) = if id' = id then some k else popTo id k := rfl
theorem popTo_c (id : Nat) (c : Code) : popTo id (.c c :: k) = popTo id k := rfl
theorem popTo_o (id : Nat) (l : List Oper) (all : Array Oper) : popTo id (.o l all :: k) = popTo id k := rfl
theorem popTo_lp (id : Nat) (I : AState → Prop) : popTo id (.lp I :: k) = popTo id k := rfl
end

section
variable (P : Program) (rec : List It → (AState → Prop) → AState → Prop) (d : Option Nat) (ty : TypeId) (pos : String) (af : Array Edge) (g : Option (Nat × Bool)) (k : List It) (Q : AState → Prop) (s : AState)
/-- On with the value. -/
def onK (av : AV) : Prop := force (putA s d av) fun s' => rec k Q s'
theorem onK_eq (av : AV) : onK rec d k Q s av = force (putA s d av) fun s' => rec k Q s' := rfl
theorem onK_congr {rec : List It → (AState → Prop) → AState → Prop} {d : Option Nat} {k : List It} {Q : AState → Prop} {s : AState} {av : AV} : onK rec d k Q s av = onK rec d k Q s av := rfl

theorem oK_move (x : Operand) : opK P rec ⟨d, .move x, ty, pos, af, g⟩ k Q s = qev P (evA s.t) (find s.h) (.move x) (onK rec d k Q s) := rfl
theorem oK_assign (x : Operand) : opK P rec ⟨d, .assign x, ty, pos, af, g⟩ k Q s = qev P (evA s.t) (find s.h) (.assign x) (onK rec d k Q s) := rfl
theorem oK_pick (x y z : Operand) : opK P rec ⟨d, .pick x y z, ty, pos, af, g⟩ k Q s = qev P (evA s.t) (find s.h) (.pick x y z) (onK rec d k Q s) := rfl
theorem oK_load (t : TypeId) (x : Operand) : opK P rec ⟨d, .load t x, ty, pos, af, g⟩ k Q s = qev P (evA s.t) (find s.h) (.load t x) (onK rec d k Q s) := rfl
theorem oK_fieldAddr (t : TypeId) (x : Operand) (f : Nat) : opK P rec ⟨d, .fieldAddr t x f, ty, pos, af, g⟩ k Q s = qev P (evA s.t) (find s.h) (.fieldAddr t x f) (onK rec d k Q s) := rfl
theorem oK_indexAddr (t : TypeId) (x y : Operand) : opK P rec ⟨d, .indexAddr t x y, ty, pos, af, g⟩ k Q s = qev P (evA s.t) (find s.h) (.indexAddr t x y) (onK rec d k Q s) := rfl
theorem oK_field (t : TypeId) (x : Operand) (f : Nat) : opK P rec ⟨d, .field t x f, ty, pos, af, g⟩ k Q s = qev P (evA s.t) (find s.h) (.field t x f) (onK rec d k Q s) := rfl
theorem oK_index (t : TypeId) (x y : Operand) : opK P rec ⟨d, .index t x y, ty, pos, af, g⟩ k Q s = qev P (evA s.t) (find s.h) (.index t x y) (onK rec d k Q s) := rfl
theorem oK_extract (x : Operand) (i : Nat) : opK P rec ⟨d, .extract x i, ty, pos, af, g⟩ k Q s = qev P (evA s.t) (find s.h) (.extract x i) (onK rec d k Q s) := rfl
theorem oK_binOp (o : BinOp) (t : TypeId) (x y : Operand) (u : TypeId) : opK P rec ⟨d, .binOp o t x y u, ty, pos, af, g⟩ k Q s = qev P (evA s.t) (find s.h) (.binOp o t x y u) (onK rec d k Q s) := rfl
theorem oK_unOp (o : UnOp) (t : TypeId) (x : Operand) : opK P rec ⟨d, .unOp o t x, ty, pos, af, g⟩ k Q s = qev P (evA s.t) (find s.h) (.unOp o t x) (onK rec d k Q s) := rfl
theorem oK_convert (t u : TypeId) (x : Operand) : opK P rec ⟨d, .convert t u x, ty, pos, af, g⟩ k Q s = optE (ikT P u) (fun _ => qev P (evA s.t) (find s.h) (.convert t u x) (onK rec d k Q s)) (AtOp P rec ⟨d, .convert t u x, ty, pos, af, g⟩ k Q s) := by
  simp only [opK, optE]
  cases ikT P u <;> rfl
theorem oK_makeFunc (f : Fn) (x y : Array Operand) : opK P rec ⟨d, .makeFunc f x y, ty, pos, af, g⟩ k Q s = qev P (evA s.t) (find s.h) (.makeFunc f x y) (onK rec d k Q s) := rfl
theorem oK_nilCheck (x : Operand) : opK P rec ⟨d, .nilCheck x, ty, pos, af, g⟩ k Q s = qev P (evA s.t) (find s.h) (.nilCheck x) (onK rec d k Q s) := rfl
theorem oK_slice (t : TypeId) (x : Operand) (lo hi mx : Option Operand) : opK P rec ⟨d, .slice t x lo hi mx, ty, pos, af, g⟩ k Q s = qev P (evA s.t) (find s.h) (.slice t x lo hi mx) (onK rec d k Q s) := rfl
theorem oK_build (t : TypeId) (x : Array (Nat × Operand)) : opK P rec ⟨d, .build t x, ty, pos, af, g⟩ k Q s = qev P (evA s.t) (find s.h) (.build t x) (onK rec d k Q s) := rfl
theorem oK_len (xs : Array Operand) (ts : Array TypeId) : opK P rec ⟨d, .call ⟨.builtin .len, xs, ts⟩, ty, pos, af, g⟩ k Q s = qev P (evA s.t) (find s.h) (.call ⟨.builtin .len, xs, ts⟩) (onK rec d k Q s) := rfl
theorem oK_max (xs : Array Operand) (ts : Array TypeId) : opK P rec ⟨d, .call ⟨.builtin .max, xs, ts⟩, ty, pos, af, g⟩ k Q s = qev P (evA s.t) (find s.h) (.call ⟨.builtin .max, xs, ts⟩) (onK rec d k Q s) := rfl
theorem oK_min (xs : Array Operand) (ts : Array TypeId) : opK P rec ⟨d, .call ⟨.builtin .min, xs, ts⟩, ty, pos, af, g⟩ k Q s = qev P (evA s.t) (find s.h) (.call ⟨.builtin .min, xs, ts⟩) (onK rec d k Q s) := rfl
/-- On with a new block. -/
def onN (av : AV) (b : Blk) : Prop := force (pushA s b) fun s' => onK rec d k Q s' av
theorem onN_eq (av : AV) (b : Blk) : onN rec d k Q s av b = force (pushA s b) fun s' => onK rec d k Q s' av := rfl
theorem onN_congr {rec : List It → (AState → Prop) → AState → Prop} {d : Option Nat} {k : List It} {Q : AState → Prop} {s : AState} {av : AV} {b : Blk} : onN rec d k Q s av b = onN rec d k Q s av b := rfl
theorem oK_box (t : TypeId) (x : Operand) : opK P rec ⟨d, .box t x, ty, pos, af, g⟩ k Q s = optK (cellsA (evA s.t x)) fun l => onN rec d k Q s (.ptr s.k 0 0) ⟨l.length, [l]⟩ := by
  simp only [opK, nev, optK, onN, onK, force]
  cases cellsA (evA s.t x) <;> rfl
theorem oK_alloc (t : TypeId) : opK P rec ⟨d, .alloc t, ty, pos, af, g⟩ k Q s = optK (zeT P t) fun z => force (z.map AV.v) fun l => onN rec d k Q s (.ptr s.k 0 0) ⟨l.length, [l]⟩ := by
  simp only [opK, nev, optK, onN, onK, force, List.length_map]
  cases zeT P t <;> rfl
theorem oK_buildSlice (t : TypeId) (len : Nat) (parts : Array (Nat × Operand)) : opK P rec ⟨d, .buildSlice t len parts, ty, pos, af, g⟩ k Q s =
    optK (slT P t) fun e => force (szT P e) fun z => (0 < z ∧ len * z ≤ 16777216 ∧ (zeT P e).isSome = true ∧ parts.toList.map (·.1) = List.range len) ∧
      force (parts.toList.map fun p => evA s.t p.2) fun xs => optK (chunksA z xs) fun cs => onN rec d k Q s (.sl s.k 0 len) ⟨z, cs⟩ := by
  simp only [opK, nev, optK, onN, onK, force]
  cases slT P t with
  | none => rfl
  | some e => simp only; cases chunksA (szT P e) (parts.toList.map fun p => evA s.t p.2) <;> simp
theorem oK_makeSlice (t : TypeId) (l c : Operand) : opK P rec ⟨d, .makeSlice t l c, ty, pos, af, g⟩ k Q s =
    optK (slT P t) fun e => optK (asI (evA s.t l)) fun x => optK (asI (evA s.t c)) fun y => force (szT P e) fun z => (0 < z ∧ 0 ≤ x.2 ∧ x.2 ≤ y.2 ∧ y.2 ≤ 1099511627776 ∧ byT P e ≤ 64) ∧
      optK (zeT P e) fun w => w.length = z ∧ force (List.replicate x.2.toNat (w.map AV.v)) fun cs => onN rec d k Q s (.sl s.k 0 x.2.toNat) ⟨z, cs⟩ := by
  simp only [opK, nev, optK, onN, onK, force]
  cases slT P t with
  | none => rfl
  | some e => simp only; cases asI (evA s.t l) with
    | none => rfl
    | some x =>
      obtain ⟨kx, x⟩ := x
      cases asI (evA s.t c) with
      | none => rfl
      | some y => obtain ⟨ky, y⟩ := y; simp only; cases zeT P e <;> rfl
/-- On with other blocks. -/
def onH (h : List (Nat × Blk)) (av : AV) : Prop := force h fun h' => onK rec d k Q { s with h := h' } av
theorem onH_eq (h : List (Nat × Blk)) (av : AV) : onH rec d k Q s h av = force h fun h' => onK rec d k Q { s with h := h' } av := rfl
theorem onH_congr {rec : List It → (AState → Prop) → AState → Prop} {d : Option Nat} {k : List It} {Q : AState → Prop} {s : AState} {h : List (Nat × Blk)} {av : AV} : onH rec d k Q s h av = onH rec d k Q s h av := rfl
theorem oK_store (t : TypeId) (p x : Operand) : opK P rec ⟨d, .store t p x, ty, pos, af, g⟩ k Q s =
    optK (cellsA (evA s.t x)) fun l => pK (evA s.t p) (fun n i j => optK (find s.h n) fun b => optK b.l[i]? fun ch => (0 < szT P t ∧ l.length = szT P t ∧ j + l.length ≤ ch.length ∧ l.all oneA = true) ∧
      force (newCh ch j l) fun c' => force (b.l.set i c') fun l' => onH rec d k Q s (setN s.h n ⟨b.e, l'⟩) .unk) (fun _ _ => False) := by
  simp only [opK, stK, optK, pK, onH, onK, force]
  cases cellsA (evA s.t x) with
  | none => cases evA s.t p <;> rfl
  | some l =>
    cases evA s.t p with
    | ptr n i j =>
      simp only
      cases find s.h n with
      | none => rfl
      | some b => simp only; cases b.l[i]? <;> simp
    | _ => rfl
/-- On behind an append. -/
def onA (ns : List Nat) (z : Nat) (l : List (List AV)) : Prop := force (dropN ns s.h) fun h' => force (pushA { s with h := h' } ⟨z, l⟩) fun s' => force l.length fun m => onK rec d k Q s' (.sl s.k 0 m)
theorem onA_eq (ns : List Nat) (z : Nat) (l : List (List AV)) : onA rec d k Q s ns z l = force (dropN ns s.h) fun h' => force (pushA { s with h := h' } ⟨z, l⟩) fun s' => force l.length fun m => onK rec d k Q s' (.sl s.k 0 m) := rfl
theorem onA_congr {rec : List It → (AState → Prop) → AState → Prop} {d : Option Nat} {k : List It} {Q : AState → Prop} {s : AState} {ns : List Nat} {z : Nat} {l : List (List AV)} : onA rec d k Q s ns z l = onA rec d k Q s ns z l := rfl
def srcE (H : Nat → Option Blk) (z : Nat) (x : AV) (K : List (List AV) → Prop) [Tg K] : Prop := srcK H z x K
theorem srcE_ro (H : Nat → Option Blk) (z e : Nat) (l : List (List AV)) (K : List (List AV) → Prop) : srcE H z (.ro e l) K = (e = z ∧ K l) := rfl
theorem srcE_sl (H : Nat → Option Blk) (z n i m : Nat) (K : List (List AV) → Prop) : srcE H z (.sl n i m) K = optK (H n) fun b => b.e = z ∧ i + m ≤ b.l.length ∧ force (takeA i m b.l) K := by
  simp only [srcE, srcK, optK, force]
  cases H n <;> rfl
theorem srcE_ez (H : Nat → Option Blk) (z : Nat) (K : List (List AV) → Prop) : srcE H z .ez K = K [] := rfl
theorem srcE_nil (H : Nat → Option Blk) (z : Nat) (K : List (List AV) → Prop) : srcE H z (.v (.slice none 0 0)) K = K [] := rfl
theorem srcE_str (H : Nat → Option Blk) (z : Nat) (b : ByteArray) (K : List (List AV) → Prop) : srcE H z (.v (.string b)) K = (z = 1 ∧ K (b.data.toList.map fun b => [.v (.int .u8 b.toNat)])) := rfl
theorem srcE_congr {H : Nat → Option Blk} {z : Nat} {x : AV} {K : List (List AV) → Prop} : srcE H z x K = srcE H z x K := rfl
def dstE (H : Nat → Option Blk) (z : Nat) (x : AV) (K : List Nat → List (List AV) → Prop) [Tg K] : Prop := dstK H z x K
theorem dstE_sl (H : Nat → Option Blk) (z n i m : Nat) (K : List Nat → List (List AV) → Prop) : dstE H z (.sl n i m) K = optK (H n) fun b => b.e = z ∧ i + m ≤ b.l.length ∧ force (takeA i m b.l) (K [n]) := by
  simp only [dstE, dstK, optK, force]
  cases H n <;> rfl
theorem dstE_nil (H : Nat → Option Blk) (z : Nat) (K : List Nat → List (List AV) → Prop) : dstE H z (.v (.slice none 0 0)) K = K [] [] := rfl
theorem dstE_ez (H : Nat → Option Blk) (z : Nat) (K : List Nat → List (List AV) → Prop) : dstE H z .ez K = K [] [] := rfl
theorem dstE_congr {H : Nat → Option Blk} {z : Nat} {x : AV} {K : List Nat → List (List AV) → Prop} : dstE H z x K = dstE H z x K := rfl
theorem oK_append (a b : Operand) (t u : TypeId) : opK P rec ⟨d, .call ⟨.builtin .append, #[a, b], #[t, u]⟩, ty, pos, af, g⟩ k Q s =
    optK (slT P t) fun e => ikT P u = none ∧ force (szT P e) fun z => (0 < z ∧ byT P e ≤ 64 ∧ optK (zeT P e) fun w => w.length = z) ∧ (P.underlying u).isSome = true ∧
      force (evA s.t a) fun x => force (evA s.t b) fun y => dstE (find s.h) z x fun ns dl => srcE (find s.h) z y fun sl =>
        dl.length + sl.length ≤ 1099511627776 ∧ (∀ c ∈ sl, ∀ q ∈ c, oneA q = true) ∧ force (dl ++ sl) fun l => onA rec d k Q s ns z l := by
  simp only [opK, apK, optK, onA, onK, force, srcE, dstE]
  cases slT P t with
  | none => rfl
  | some e =>
    simp only
    cases ikT P u with
    | some _ => simp
    | none => simp only [true_and]; cases zeT P e <;> simp
theorem oK_call (f : Operand) (xs : Array Operand) (ts : Array TypeId) : opK P rec ⟨d, .call ⟨.value f, xs, ts⟩, ty, pos, af, g⟩ k Q s =
    fyK (evA s.t f) (fun fi caps => force (xs.toList.map (evA s.t) ++ caps) fun as => AtFn P rec ⟨d, .call ⟨.value f, xs, ts⟩, ty, pos, af, g⟩ fi as k Q s)
      (fun l p q => force (xs.toList.map (evA s.t)) fun as => AtYl P rec ⟨d, .call ⟨.value f, xs, ts⟩, ty, pos, af, g⟩ l p q as k Q s) := by
  simp only [opK, fyK, force]
  cases evA s.t f with
  | v x => cases x with
    | func x p q => cases x <;> rfl
    | _ => rfl
  | _ => rfl
theorem oK_makeMap (t : TypeId) (r : Option Operand) : opK P rec ⟨d, .makeMap t r, ty, pos, af, g⟩ k Q s = AtOp P rec ⟨d, .makeMap t r, ty, pos, af, g⟩ k Q s := rfl
theorem oK_lookup (t : TypeId) (x y : Operand) (b : Bool) : opK P rec ⟨d, .lookup t x y b, ty, pos, af, g⟩ k Q s = AtOp P rec ⟨d, .lookup t x y b, ty, pos, af, g⟩ k Q s := rfl
theorem oK_mapUpdate (t : TypeId) (x y z : Operand) : opK P rec ⟨d, .mapUpdate t x y z, ty, pos, af, g⟩ k Q s = AtOp P rec ⟨d, .mapUpdate t x y z, ty, pos, af, g⟩ k Q s := rfl
theorem oK_range (t : TypeId) (x : Operand) : opK P rec ⟨d, .range t x, ty, pos, af, g⟩ k Q s = AtOp P rec ⟨d, .range t x, ty, pos, af, g⟩ k Q s := rfl
theorem oK_next (x : Operand) (b : Bool) : opK P rec ⟨d, .next x b, ty, pos, af, g⟩ k Q s = AtOp P rec ⟨d, .next x b, ty, pos, af, g⟩ k Q s := rfl
theorem oK_copy (xs : Array Operand) (ts : Array TypeId) : opK P rec ⟨d, .call ⟨.builtin .copy, xs, ts⟩, ty, pos, af, g⟩ k Q s = AtOp P rec ⟨d, .call ⟨.builtin .copy, xs, ts⟩, ty, pos, af, g⟩ k Q s := rfl
theorem oK_clear (xs : Array Operand) (ts : Array TypeId) : opK P rec ⟨d, .call ⟨.builtin .clear, xs, ts⟩, ty, pos, af, g⟩ k Q s = AtOp P rec ⟨d, .call ⟨.builtin .clear, xs, ts⟩, ty, pos, af, g⟩ k Q s := rfl
end

/-! ### Results -/
section
variable (P : Program) (s : AState)
theorem fin_eq (rs : List ResultVar) (R : AV) : FinA P rs R s = resK P s rs fun l => tupA l = R := rfl
theorem res_nil (K : List AV → Prop) : resK P s [] K = K [] := rfl
theorem res_tmp (t : Nat) (rs : List ResultVar) (K : List AV → Prop) : resK P s (.tmp t :: rs) K = force (frzA (find s.h) 4 (s.t t)) fun x => resK P s rs fun l => K (x :: l) := rfl
theorem res_cell (a : Nat) (t : TypeId) (rs : List ResultVar) (K : List AV → Prop) : resK P s (.cell a t :: rs) K =
    pK (s.t a) (fun n i j => optK (find s.h n) fun b => optK b.l[i]? fun ch => loadE P (fun av => force (frzA (find s.h) 4 av) fun x => resK P s rs fun l => K (x :: l)) t ch j) (fun _ _ => False) := by
  simp only [resK, res1, pK, optK, loadE_eq, force]
  cases s.t a with
  | ptr n i j =>
    simp only
    cases find s.h n with
    | none => rfl
    | some b => simp only; cases b.l[i]? <;> simp
  | _ => rfl
theorem tup1 (x : AV) : tupA [x] = x := rfl
theorem tup2 (x y : AV) : tupA [x, y] = .t [x, y] := rfl
theorem tup3 (x y z : AV) : tupA [x, y, z] = .t [x, y, z] := rfl
theorem tup0 : tupA [] = .t [] := rfl
end

/-! ### Freezing -/
section
variable (H : Nat → Option Blk) (d : Nat)
def optA {α : Type} (x : Option α) (f : α → AV) : AV := match x with | some a => f a | none => .unk
theorem optA_some {α : Type} (x : α) (f : α → AV) : optA (some x) f = f x := rfl
theorem optA_none {α : Type} (f : α → AV) : optA none f = .unk := rfl
theorem frz_v (x : Value) : frzA H (d + 1) (.v x) = .v x := rfl
theorem frz_ro (e : Nat) (l : List (List AV)) : frzA H (d + 1) (.ro e l) = .ro e l := rfl
theorem frz_rp (l : List AV) (j : Nat) : frzA H (d + 1) (.rp l j) = .rp l j := rfl
theorem frz_ez : frzA H (d + 1) .ez = .ez := rfl
theorem nm_ez : namesA H (d + 1) .ez = [] := rfl
theorem frz_unk : frzA H (d + 1) .unk = .unk := rfl
theorem frz_t (l : List AV) : frzA H (d + 1) (.t l) = .t l := rfl
theorem frz_g (l : List AV) : frzA H (d + 1) (.g l) = .g (l.map (frzA H d)) := rfl
theorem frz_fn (f : Nat) (l : List AV) : frzA H (d + 1) (.fn f l) = .fn f (l.map (frzA H d)) := rfl
theorem frz_ptr (n i j : Nat) : frzA H (d + 1) (.ptr n i j) = optA (H n) fun k => optA k.l[i]? fun ch => .rp (ch.map (frzA H d)) j := by
  simp only [frzA, optA]
  cases H n with
  | none => rfl
  | some k => simp only; cases k.l[i]? <;> rfl
theorem frz_sl (n i len : Nat) : frzA H (d + 1) (.sl n i len) = optA (H n) fun k => if i + len ≤ k.l.length then .ro k.e (takeA i len k.l) else .unk := by
  simp only [frzA, optA]
  cases H n <;> rfl
def optL {α β : Type} (x : Option α) (f : α → List β) : List β := match x with | some a => f a | none => []
theorem optL_some {α β : Type} (x : α) (f : α → List β) : optL (some x) f = f x := rfl
theorem optL_none {α β : Type} (f : α → List β) : optL none f = [] := rfl
theorem nm_v (x : Value) : namesA H (d + 1) (.v x) = [] := rfl
theorem nm_ro (e : Nat) (l : List (List AV)) : namesA H (d + 1) (.ro e l) = [] := rfl
theorem nm_rp (l : List AV) (j : Nat) : namesA H (d + 1) (.rp l j) = [] := rfl
theorem nm_unk : namesA H (d + 1) .unk = [] := rfl
theorem nm_t (l : List AV) : namesA H (d + 1) (.t l) = [] := rfl
theorem nm_g (l : List AV) : namesA H (d + 1) (.g l) = l.flatMap (namesA H d) := rfl
theorem nm_fn (f : Nat) (l : List AV) : namesA H (d + 1) (.fn f l) = l.flatMap (namesA H d) := rfl
theorem nm_ptr (n i j : Nat) : namesA H (d + 1) (.ptr n i j) = n :: optL (H n) fun k => optL k.l[i]? fun ch => ch.flatMap (namesA H d) := by
  simp only [namesA, optL]
  cases H n with
  | none => rfl
  | some k => simp only; cases k.l[i]? <;> rfl
theorem nm_sl (n i len : Nat) : namesA H (d + 1) (.sl n i len) = [n] := rfl
theorem cells_v (x : Value) : cellsA (.v x) = if x.oneCell' then some [.v x] else none := rfl
theorem cells_g (l : List AV) : cellsA (.g l) = some l := rfl
theorem cells_ro (e : Nat) (l : List (List AV)) : cellsA (.ro e l) = some [.ro e l] := rfl
theorem cells_ez : cellsA .ez = some [.ez] := rfl
theorem cells_rp (l : List AV) (j : Nat) : cellsA (.rp l j) = some [.rp l j] := rfl
theorem cells_ptr (n i j : Nat) : cellsA (.ptr n i j) = some [.ptr n i j] := rfl
theorem cells_sl (n i j : Nat) : cellsA (.sl n i j) = some [.sl n i j] := rfl
theorem cells_fn (n : Nat) (l : List AV) : cellsA (.fn n l) = some [.fn n l] := rfl
theorem one_int (k : IntKind) (x : Int) : (Value.int k x).oneCell' = true := rfl
theorem one_bool (x : Bool) : (Value.bool x).oneCell' = true := rfl
theorem one_string (x : ByteArray) : (Value.string x).oneCell' = true := rfl
theorem one_slice (a : Option Addr) (n m : Nat) : (Value.slice a n m).oneCell' = true := rfl
theorem one_pointer (a : Option Addr) : (Value.pointer a).oneCell' = true := rfl
theorem one_nilFunc : Value.nilFunc.oneCell' = true := rfl
theorem oneA_v (x : Value) : oneA (.v x) = x.oneCell' := rfl
theorem oneA_ro (e : Nat) (l : List (List AV)) : oneA (.ro e l) = true := rfl
theorem oneA_ez : oneA .ez = true := rfl
theorem oneA_rp (l : List AV) (j : Nat) : oneA (.rp l j) = true := rfl
theorem oneA_ptr (n i j : Nat) : oneA (.ptr n i j) = true := rfl
theorem oneA_sl (n i j : Nat) : oneA (.sl n i j) = true := rfl
theorem oneA_fn (n : Nat) (l : List AV) : oneA (.fn n l) = true := rfl
theorem ofV_int (k : IntKind) (x : Int) : ofV (.int k x) = .v (.int k x) := rfl
theorem ofV_bool (x : Bool) : ofV (.bool x) = .v (.bool x) := rfl
theorem ofV_string (x : ByteArray) : ofV (.string x) = .v (.string x) := rfl
theorem ofV_slice (a : Option Addr) (n m : Nat) : ofV (.slice a n m) = .v (.slice a n m) := rfl
theorem ofV_nilFunc : ofV .nilFunc = .v .nilFunc := rfl
theorem ofV_pointer (a : Option Addr) : ofV (.pointer a) = .v (.pointer a) := rfl
theorem ofV_agg (cs : Array Value) : ofV (.agg cs) = .g (cs.toList.map .v) := rfl
theorem len_ro (e : Nat) (l : List (List AV)) : lenA (.ro e l) = some l.length := rfl
theorem len_ez : lenA .ez = some 0 := rfl
theorem len_sl (n i m : Nat) : lenA (.sl n i m) = some m := rfl
theorem len_nil (a : Option Addr) (n m : Nat) : lenA (.v (.slice a n m)) = some n := rfl
theorem asI_int (k : IntKind) (x : Int) : asI (.v (.int k x)) = some (k, x) := rfl
theorem fill_nil (pl : Nat → Option (Nat × Nat)) (c : List AV) : fillA pl c [] = some c := rfl
theorem fill_cons (pl : Nat → Option (Nat × Nat)) (c : List AV) (i : Nat) (a : AV) (r : List (Nat × AV)) :
    fillA pl c ((i, a) :: r) = (pl i).bind fun oz => (cellsA a).bind fun l => if l.length = oz.2 ∧ oz.1 + l.length ≤ c.length then fillA pl (c.take oz.1 ++ l ++ c.drop (oz.1 + l.length)) r else none := by
  simp only [fillA]
  cases pl i with
  | none => rfl
  | some oz => obtain ⟨o, z⟩ := oz; cases cellsA a <;> rfl
theorem chunks_nil (z : Nat) : chunksA z [] = some [] := rfl
theorem chunks_cons (z : Nat) (x : AV) (r : List AV) : chunksA z (x :: r) = (cellsA x).bind fun c => (chunksA z r).bind fun l => if c.length = z then some (c :: l) else none := by
  simp only [chunksA]
  cases cellsA x with
  | none => rfl
  | some c => cases chunksA z r <;> rfl
theorem bV_add (k k' : IntKind) (x y : Int) (K : AV → Prop) : binV .add (.int k x) (.int k' y) K = (k = k' ∧ K (.v (.int k (k.wrap (x + y))))) := rfl
theorem bV_sub (k k' : IntKind) (x y : Int) (K : AV → Prop) : binV .sub (.int k x) (.int k' y) K = (k = k' ∧ K (.v (.int k (k.wrap (x - y))))) := rfl
theorem bV_mul (k k' : IntKind) (x y : Int) (K : AV → Prop) : binV .mul (.int k x) (.int k' y) K = (k = k' ∧ K (.v (.int k (k.wrap (x * y))))) := rfl
theorem bV_quo (k k' : IntKind) (x y : Int) (K : AV → Prop) : binV .quo (.int k x) (.int k' y) K = (k = k' ∧ y ≠ 0 ∧ K (.v (.int k (k.wrap (x.tdiv y))))) := rfl
theorem bV_rem (k k' : IntKind) (x y : Int) (K : AV → Prop) : binV .rem (.int k x) (.int k' y) K = (k = k' ∧ y ≠ 0 ∧ K (.v (.int k (x.tmod y)))) := rfl
theorem bV_and (k k' : IntKind) (x y : Int) (K : AV → Prop) : binV .and (.int k x) (.int k' y) K = (k = k' ∧ K (.v (.int k (k.wrap (BitVec.ofInt k.bits x &&& BitVec.ofInt k.bits y).toNat)))) := rfl
theorem bV_or (k k' : IntKind) (x y : Int) (K : AV → Prop) : binV .or (.int k x) (.int k' y) K = (k = k' ∧ K (.v (.int k (k.wrap (BitVec.ofInt k.bits x ||| BitVec.ofInt k.bits y).toNat)))) := rfl
theorem bV_xor (k k' : IntKind) (x y : Int) (K : AV → Prop) : binV .xor (.int k x) (.int k' y) K = (k = k' ∧ K (.v (.int k (k.wrap (BitVec.ofInt k.bits x ^^^ BitVec.ofInt k.bits y).toNat)))) := rfl
theorem bV_shl (k k1 : IntKind) (x y : Int) (K : AV → Prop) : binV .shl (.int k x) (.int k1 y) K = (0 ≤ y ∧ K (.v (.int k (k.wrap (x * 2 ^ (min y.toNat k.bits)))))) := rfl
theorem bV_shr (k k1 : IntKind) (x y : Int) (K : AV → Prop) : binV .shr (.int k x) (.int k1 y) K = (0 ≤ y ∧ K (.v (.int k (x.fdiv (2 ^ (min y.toNat k.bits)))))) := rfl
theorem bV_eql (k k' : IntKind) (x y : Int) (K : AV → Prop) : binV .eql (.int k x) (.int k' y) K = (k = k' ∧ K (.v (.bool (decide (x = y))))) := rfl
theorem bV_neq (k k' : IntKind) (x y : Int) (K : AV → Prop) : binV .neq (.int k x) (.int k' y) K = (k = k' ∧ K (.v (.bool (!decide (x = y))))) := rfl
theorem bV_lss (k k' : IntKind) (x y : Int) (K : AV → Prop) : binV .lss (.int k x) (.int k' y) K = (k = k' ∧ K (.v (.bool (decide (x < y))))) := rfl
theorem bV_leq (k k' : IntKind) (x y : Int) (K : AV → Prop) : binV .leq (.int k x) (.int k' y) K = (k = k' ∧ K (.v (.bool (decide (x ≤ y))))) := rfl
theorem bV_gtr (k k' : IntKind) (x y : Int) (K : AV → Prop) : binV .gtr (.int k x) (.int k' y) K = (k = k' ∧ K (.v (.bool (decide (y < x))))) := rfl
theorem bV_geq (k k' : IntKind) (x y : Int) (K : AV → Prop) : binV .geq (.int k x) (.int k' y) K = (k = k' ∧ K (.v (.bool (decide (y ≤ x))))) := rfl
theorem bV_add_s (x y : ByteArray) (K : AV → Prop) : binV .add (.string x) (.string y) K = (x.size + y.size ≤ 9223372036854775807 ∧ K (.v (.string (x ++ y)))) := rfl
theorem bV_eql_s (x y : ByteArray) (K : AV → Prop) : binV .eql (.string x) (.string y) K = (K (.v (.bool (x.toList == y.toList)))) := rfl
theorem bV_neq_s (x y : ByteArray) (K : AV → Prop) : binV .neq (.string x) (.string y) K = (K (.v (.bool (!(x.toList == y.toList))))) := rfl
theorem take_all (l : List (List AV)) : takeA 0 l.length l = l := by simp [takeA]
end

/-- A call by the function's answer: what is frozen is worked out by rewriting. -/
theorem AtFn.pure {P : Program} {rec : List It → (AState → Prop) → AState → Prop} {o : Oper} {f : FuncId} {as as' : List AV} {k : List It} {Q : AState → Prop} {s : AState} {R : AV}
    (hfun : PFun P f as' R) (hk : force (as.map (frzA (find s.h) 3)) fun x => x = as' ∧ (∀ a ∈ as', Cl a) ∧ force (dropN (as.flatMap (namesA (find s.h) 3)) s.h) fun h' => force (putA { s with h := h' } o.dst R) fun s' => rec k Q s') : AtFn P rec o f as k Q s := by
  obtain ⟨h1, h2, h3⟩ := hk
  exact AtFn.pure' h1 rfl hfun h2 h3
end Go.Eng
