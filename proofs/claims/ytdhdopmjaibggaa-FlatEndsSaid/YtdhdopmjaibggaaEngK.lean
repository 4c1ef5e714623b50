/- The engine, part K: the run's text as rewrite rules that look at one thing at a time. -/
import Derived.Test.YtdhdopmjaibggaaEngJ
set_option linter.unusedSimpArgs false
set_option linter.unusedVariables false
namespace Go.Eng
open Go Go.RowKit

/-! ### Looking at one value -/
section
variable {α : Type}
def force (x : α) (f : α → Prop) [Tg f] : Prop := f x
def optK (x : Option α) (f : α → Prop) [Tg f] : Prop := match x with | some a => f a | none => False
def optE (x : Option α) (f : α → Prop) (g : Prop) [Tg f] [Tg g] : Prop := match x with | some a => f a | none => g
end
def vK (x : AV) (f : Value → Prop) [Tg f] : Prop := match x with | .v a => f a | _ => False
def bK (x : AV) (f : Bool → Prop) [Tg f] : Prop := match x with | .v (.bool a) => f a | _ => False
def gK (x : AV) (f : List AV → Prop) [Tg f] : Prop := match x with | .g a => f a | _ => False
def tK (x : AV) (f : List AV → Prop) [Tg f] : Prop := match x with | .t a => f a | _ => False
def fnK (x : AV) (f : Nat → List AV → Prop) [Tg f] : Prop := match x with | .fn a b => f a b | _ => False
def fyK (x : AV) (f : Nat → List AV → Prop) (y : Nat → Array Value → Array Value → Prop) [Tg f] [Tg y] : Prop := match x with | .fn a b => f a b | .v (.func (.yield l) p q) => y l p q | _ => False
def nK (x : AV) (f : AV → Prop) [Tg f] : Prop := match x with | .ptr n i j => f (.ptr n i j) | .rp c j => f (.rp c j) | .fn a b => f (.fn a b) | _ => False
def pK (x : AV) (f : Nat → Nat → Nat → Prop) (g : List AV → Nat → Prop) [Tg f] [Tg g] : Prop := match x with | .ptr n i j => f n i j | .rp c j => g c j | _ => False
def iK (x : AV) (f : Nat → List (List AV) → Prop) (g : Nat → Nat → Nat → Prop) (h : Nat → Nat → Prop) [Tg f] [Tg g] [Tg h] : Prop := match x with | .ro e l => f e l | .sl n i m => g n i m | _ => False
def brK (z : Bool) (a b : Prop) [Tg a] [Tg b] : Prop := (z = true → a) ∧ (z = false → b)

theorem force_congr {α : Type} {x y : α} {f : α → Prop} (h : x = y) : force x f = force y f := by rw [h]
theorem optK_congr {α : Type} {x y : Option α} {f : α → Prop} (h : x = y) : optK x f = optK y f := by rw [h]
theorem optE_congr {α : Type} {x y : Option α} {f : α → Prop} {g : Prop} (h : x = y) : optE x f g = optE y f g := by rw [h]
theorem vK_congr {x y : AV} {f : Value → Prop} (h : x = y) : vK x f = vK y f := by rw [h]
theorem bK_congr {x y : AV} {f : Bool → Prop} (h : x = y) : bK x f = bK y f := by rw [h]
theorem gK_congr {x y : AV} {f : List AV → Prop} (h : x = y) : gK x f = gK y f := by rw [h]
theorem tK_congr {x y : AV} {f : List AV → Prop} (h : x = y) : tK x f = tK y f := by rw [h]
theorem fnK_congr {x y : AV} {f : Nat → List AV → Prop} (h : x = y) : fnK x f = fnK y f := by rw [h]
theorem fyK_congr {x y : AV} {f : Nat → List AV → Prop} {g : Nat → Array Value → Array Value → Prop} (h : x = y) : fyK x f g = fyK y f g := by rw [h]
theorem nK_congr {x y : AV} {f : AV → Prop} (h : x = y) : nK x f = nK y f := by rw [h]
theorem pK_congr {x y : AV} {f : Nat → Nat → Nat → Prop} {g : List AV → Nat → Prop} (h : x = y) : pK x f g = pK y f g := by rw [h]
theorem iK_congr {x y : AV} {f : Nat → List (List AV) → Prop} {g : Nat → Nat → Nat → Prop} {q : Nat → Nat → Prop} (h : x = y) : iK x f g q = iK y f g q := by rw [h]
theorem brK_congr {x y : Bool} {a b : Prop} (h : x = y) : brK x a b = brK y a b := by rw [h]

theorem force_eq {α : Type} (x : α) (f : α → Prop) : force x f = f x := rfl
theorem optK_some {α : Type} (x : α) (f : α → Prop) : optK (some x) f = f x := rfl
theorem optK_none {α : Type} (f : α → Prop) : optK none f = False := rfl
theorem optE_some {α : Type} (x : α) (f : α → Prop) (g : Prop) : optE (some x) f g = f x := rfl
theorem optE_none {α : Type} (f : α → Prop) (g : Prop) : optE none f g = g := rfl
theorem vK_v (x : Value) (f : Value → Prop) : vK (.v x) f = f x := rfl
theorem bK_v (x : Bool) (f : Bool → Prop) : bK (.v (.bool x)) f = f x := rfl
theorem gK_g (x : List AV) (f : List AV → Prop) : gK (.g x) f = f x := rfl
theorem tK_t (x : List AV) (f : List AV → Prop) : tK (.t x) f = f x := rfl
theorem fnK_fn (x : Nat) (c : List AV) (f : Nat → List AV → Prop) : fnK (.fn x c) f = f x c := rfl
theorem fyK_fn (x : Nat) (c : List AV) (f : Nat → List AV → Prop) (g : Nat → Array Value → Array Value → Prop) : fyK (.fn x c) f g = f x c := rfl
theorem fyK_y (l : Nat) (p q : Array Value) (f : Nat → List AV → Prop) (g : Nat → Array Value → Array Value → Prop) : fyK (.v (.func (.yield l) p q)) f g = g l p q := rfl
theorem nK_ptr (n i j : Nat) (f : AV → Prop) : nK (.ptr n i j) f = f (.ptr n i j) := rfl
theorem nK_rp (c : List AV) (j : Nat) (f : AV → Prop) : nK (.rp c j) f = f (.rp c j) := rfl
theorem nK_fn (a : Nat) (c : List AV) (f : AV → Prop) : nK (.fn a c) f = f (.fn a c) := rfl
theorem pK_ptr (n i j : Nat) (f : Nat → Nat → Nat → Prop) (g : List AV → Nat → Prop) : pK (.ptr n i j) f g = f n i j := rfl
theorem pK_rp (c : List AV) (j : Nat) (f : Nat → Nat → Nat → Prop) (g : List AV → Nat → Prop) : pK (.rp c j) f g = g c j := rfl
theorem brK_true (a b : Prop) : brK true a b = a := by simp [brK]
theorem brK_false (a b : Prop) : brK false a b = b := by simp [brK]
theorem brK_dec (p : Prop) [Decidable p] (a b : Prop) : brK (decide p) a b = ((p → a) ∧ (¬ p → b)) := by simp [brK]
theorem brK_not (z : Bool) (a b : Prop) : brK (!z) a b = brK z b a := by cases z <;> simp [brK]

/-! ### Slots -/
theorem evA_tmp (t : Nat → AV) (i : Nat) : evA t (.tmp i) = t i := rfl
theorem evA_const (t : Nat → AV) (v : Value) : evA t (.const v) = ofV v := rfl
theorem evA_func (t : Nat → AV) (f : Nat) : evA t (.func f) = .fn f [] := rfl
theorem upd_get (t : Nat → AV) (d i : Nat) (x : AV) : upd t d x i = if i = d then x else t i := rfl
theorem putA_some (n d : Nat) (t : Nat → AV) (h : List (Nat × Blk)) (k : Nat) (z : Aux) (x : AV) : putA ⟨n, t, h, k, z⟩ (some d) x = if d < n then ⟨n, upd t d x, h, k, z⟩ else ⟨n, t, h, k, z⟩ := rfl
theorem putA_none (s : AState) (x : AV) : putA s none x = s := rfl
theorem pushA_eq (n : Nat) (t : Nat → AV) (h : List (Nat × Blk)) (k : Nat) (z : Aux) (b : Blk) : pushA ⟨n, t, h, k, z⟩ b = ⟨n, t, (k, b) :: h, k + 1, z⟩ := rfl
theorem slots_zero (x : AV) (l : List AV) : slots (x :: l) 0 = x := rfl
theorem slots_succ (x : AV) (l : List AV) (i : Nat) : slots (x :: l) (i + 1) = slots l i := rfl
theorem slots_nil (i : Nat) : slots [] i = .unk := rfl
/-- The slots that are known, by name. -/
def tl : List (Nat × AV) → Nat → AV
  | [], _ => .unk
  | (d, x) :: r, i => if i = d then x else tl r i
theorem tl_nil (i : Nat) : tl [] i = .unk := rfl
theorem tl_cons (d : Nat) (x : AV) (r : List (Nat × AV)) (i : Nat) : tl ((d, x) :: r) i = if i = d then x else tl r i := rfl
theorem find_cons (m : Nat) (b : Blk) (r : List (Nat × Blk)) (n : Nat) : find ((m, b) :: r) n = if m = n then some b else find r n := rfl
theorem find_nil (n : Nat) : find [] n = none := rfl
theorem setN_cons (m : Nat) (c : Blk) (r : List (Nat × Blk)) (n : Nat) (b : Blk) : setN ((m, c) :: r) n b = (if m = n then (n, b) else (m, c)) :: setN r n b := rfl
theorem setN_nil (n : Nat) (b : Blk) : setN [] n b = [] := rfl
theorem dropN_nil (ns : List Nat) : dropN ns [] = [] := rfl
theorem dropN_none (h : List (Nat × Blk)) : dropN [] h = h := by simp [dropN]
theorem dropN_cons (ns : List Nat) (m : Nat) (b : Blk) (r : List (Nat × Blk)) : dropN ns ((m, b) :: r) = if ns.contains m then dropN ns r else (m, b) :: dropN ns r := by
  unfold dropN; rw [List.filter_cons]; cases hc : ns.contains m <;> simp [hc]

/-! ### The operations -/
/-! ### Slices of slices -/
def loE (x : Option AV) (F : Nat → Prop) [Tg F] : Prop := match x with | none => F 0 | some a => optK (asI a) fun q => 0 ≤ q.2 ∧ force q.2.toNat F
def hiE (x : Option AV) (n : Nat) (F : Nat → Prop) [Tg F] : Prop := match x with | none => F n | some a => optK (asI a) fun q => 0 ≤ q.2 ∧ force q.2.toNat F
theorem loE_congr {x y : Option AV} {F : Nat → Prop} (h : x = y) : loE x F = loE y F := by rw [h]
theorem hiE_congr {x y : Option AV} {n : Nat} {F : Nat → Prop} (h : x = y) : hiE x n F = hiE y n F := by rw [h]
theorem loE_none (F : Nat → Prop) : loE none F = F 0 := rfl
theorem loE_some (a : AV) (F : Nat → Prop) : loE (some a) F = optK (asI a) fun q => 0 ≤ q.2 ∧ force q.2.toNat F := rfl
theorem hiE_none (n : Nat) (F : Nat → Prop) : hiE none n F = F n := rfl
theorem hiE_some (a : AV) (n : Nat) (F : Nat → Prop) : hiE (some a) n F = optK (asI a) fun q => 0 ≤ q.2 ∧ force q.2.toNat F := rfl
def slE (P : Program) (H : Nat → Option Blk) (t : TypeId) (x : AV) (lo hi mx : Option AV) (K : AV → Prop) [Tg K] : Prop := sliceK P H t x lo hi mx K
theorem slE_congr {P : Program} {H : Nat → Option Blk} {t : TypeId} {x : AV} {lo hi mx : Option AV} {K : AV → Prop} : slE P H t x lo hi mx K = slE P H t x lo hi mx K := rfl

theorem loE_iff (lo : Option AV) (F : Nat → Prop) : loE lo F ↔ ∃ l : Nat, (match lo with | none => l = 0 | some a => ∃ k i, asI a = some (k, i) ∧ i = (l : Int)) ∧ F l := by
  cases lo with
  | none => simp [loE]
  | some a =>
    simp only [loE, optK, force]
    cases asI a with
    | none => simp
    | some q =>
      obtain ⟨k, i⟩ := q
      constructor
      · rintro ⟨h1, h2⟩; exact ⟨i.toNat, ⟨k, i, rfl, by simp only at h1; omega⟩, h2⟩
      · rintro ⟨l, ⟨k', i', h1, h2⟩, h3⟩
        cases h1; subst h2; exact ⟨by simp, by simpa using h3⟩
theorem hiE_iff (hi : Option AV) (n : Nat) (F : Nat → Prop) : hiE hi n F ↔ ∃ l : Nat, (match (motive := Option AV → Prop) hi with | none => l = n ∧ (none : Option AV) = none | some a => ∃ k i, asI a = some (k, i) ∧ i = (l : Int)) ∧ F l := by
  cases hi with
  | none => simp [hiE]
  | some a =>
    have := loE_iff (some a) F
    exact this

theorem slE_core {P : Program} {H : Nat → Option Blk} {t : TypeId} {x : AV} {lo hi : Option AV} {K : AV → Prop} {n : Nat} {G : Nat → Nat → Prop} (hn : lenA x = some n)
    (hG : ∀ l h, (match x with
      | .v (.string s) => True ∧ P.underlying t = some .string ∧ K (.v (.string (s.extract l h)))
      | .ro e c => (∃ d, slT P t = some d ∧ szT P d = e ∧ 0 < e) ∧ K (.ro e ((c.take h).drop l))
      | .sl m i _ => ∃ d, slT P t = some d ∧ 0 < szT P d ∧ (match H m with | some k => k.e = szT P d ∧ K (.sl m (i + l) (h - l)) | none => False)
      | .v (.slice none 0 0) => (∃ d, slT P t = some d ∧ 0 < szT P d) ∧ K (.v (.slice none 0 0))
      | _ => False) ↔ G l h) : slE P H t x lo hi none K = (loE lo fun l => hiE hi n fun h => (l ≤ h ∧ h ≤ n) ∧ G l h) := by
  apply propext
  rw [loE_iff]
  simp only [hiE_iff]
  unfold slE sliceK
  rw [hn]
  simp only
  constructor
  · rintro ⟨l, h, h1, h2, _, h3, h4, h5⟩
    exact ⟨l, h1, h, h2, ⟨h3, h4⟩, (hG l h).1 h5⟩
  · rintro ⟨l, h1, h, h2, ⟨h3, h4⟩, h5⟩
    exact ⟨l, h, h1, h2, trivial, h3, h4, (hG l h).2 h5⟩

theorem slE_sl (P : Program) (H : Nat → Option Blk) (t : TypeId) (m i n : Nat) (lo hi : Option AV) (K : AV → Prop) : slE P H t (.sl m i n) lo hi none K =
    loE lo fun l => hiE hi n fun h => (l ≤ h ∧ h ≤ n) ∧ optK (slT P t) fun d => optK (H m) fun k => (0 < szT P d ∧ k.e = szT P d) ∧ force (AV.sl m (i + l) (h - l)) K := by
  refine slE_core rfl fun l h => ?_
  simp only [optK, force]
  cases slT P t with
  | none => simp
  | some d => cases H m <;> simp [and_assoc]
theorem slE_ro (P : Program) (H : Nat → Option Blk) (t : TypeId) (e : Nat) (c : List (List AV)) (lo hi : Option AV) (K : AV → Prop) : slE P H t (.ro e c) lo hi none K =
    loE lo fun l => hiE hi c.length fun h => (l ≤ h ∧ h ≤ c.length) ∧ optK (slT P t) fun d => (szT P d = e ∧ 0 < e) ∧ force (AV.ro e ((c.take h).drop l)) K := by
  refine slE_core rfl fun l h => ?_
  simp only [optK, force]
  cases slT P t <;> simp
theorem slE_str (P : Program) (H : Nat → Option Blk) (t : TypeId) (s : ByteArray) (lo hi : Option AV) (K : AV → Prop) : slE P H t (.v (.string s)) lo hi none K =
    loE lo fun l => hiE hi s.size fun h => (l ≤ h ∧ h ≤ s.size) ∧ P.underlying t = some .string ∧ force (AV.v (.string (s.extract l h))) K := by
  refine slE_core rfl fun l h => ?_
  simp only [force]
  simp

/-! ### Two operands -/
def bE (P : Program) (o : BinOp) (t : TypeId) (x y : AV) (K : AV → Prop) [Tg K] : Prop :=
  match x, y with | .v (.bool a), .v (.bool b) => P.underlying t = some .bool ∧ boolV o a b K | .v a, .v b => binV o a b K | .g l, .g l' => aggV P o t l l' K | _, _ => False
theorem bE_i (P : Program) (o : BinOp) (t : TypeId) (k k' : IntKind) (a b : Int) (K : AV → Prop) : bE P o t (.v (.int k a)) (.v (.int k' b)) K = binV o (.int k a) (.int k' b) fun r => force r K := rfl
theorem bE_s (P : Program) (o : BinOp) (t : TypeId) (a b : ByteArray) (K : AV → Prop) : bE P o t (.v (.string a)) (.v (.string b)) K = binV o (.string a) (.string b) fun r => force r K := rfl
theorem bE_beq (P : Program) (t : TypeId) (a b : Bool) (K : AV → Prop) : bE P .eql t (.v (.bool a)) (.v (.bool b)) K = (P.underlying t = some .bool ∧ force (AV.v (.bool (a == b))) K) := rfl
theorem bE_bne (P : Program) (t : TypeId) (a b : Bool) (K : AV → Prop) : bE P .neq t (.v (.bool a)) (.v (.bool b)) K = (P.underlying t = some .bool ∧ force (AV.v (.bool (!(a == b)))) K) := rfl
theorem bE_eql (P : Program) (t : TypeId) (l l' : List AV) (K : AV → Prop) : bE P .eql t (.g l) (.g l') K = optK (intsA l) fun xs => optK (intsA l') fun ys => (xs.length = ys.length ∧ EqK P t xs.length) ∧ force (AV.v (.bool (decide (xs = ys)))) K := by
  simp only [bE, aggV, optK, force]
  cases intsA l <;> cases intsA l' <;> rfl
theorem bE_neq (P : Program) (t : TypeId) (l l' : List AV) (K : AV → Prop) : bE P .neq t (.g l) (.g l') K = optK (intsA l) fun xs => optK (intsA l') fun ys => (xs.length = ys.length ∧ EqK P t xs.length) ∧ force (AV.v (.bool (!decide (xs = ys)))) K := by
  simp only [bE, aggV, optK, force]
  cases intsA l <;> cases intsA l' <;> rfl
theorem intsA_nil : intsA [] = some [] := rfl
theorem intsA_cons (x : Int) (r : List AV) : intsA (.v (.int .i64 x) :: r) = (intsA r).map (x :: ·) := rfl

section
variable (P : Program) (ρ : Operand → AV) (H : Nat → Option Blk) (K : AV → Prop)
def loadE (t : TypeId) (c : List AV) (j : Nat) : Prop :=
  optK (aggT P t) fun b => brK b (force (szT P t) fun z => (0 < z ∧ j + z ≤ c.length) ∧ force (AV.g ((c.drop j).take z)) K) (optK c[j]? fun s => force s K)
theorem loadE_eq (t : TypeId) (c : List AV) (j : Nat) : loadE P K t c j = loadK P t c j K := by
  unfold loadE loadK optK force brK
  cases aggT P t with
  | none => rfl
  | some b => cases b <;> simp <;> (cases c[j]? <;> simp)

theorem qE_move (x : Operand) : qev P ρ H (.move x) K = force (ρ x) K := rfl
theorem qE_assign (x : Operand) : qev P ρ H (.assign x) K = force (ρ x) K := rfl
theorem qE_pick (c a b : Operand) : qev P ρ H (.pick c a b) K = bK (ρ c) fun z => brK z (force (ρ a) K) (force (ρ b) K) := by
  simp only [qev, bK, force, brK]
  split <;> simp_all
  rename_i z _; cases z <;> simp
theorem qE_load (t : TypeId) (a : Operand) : qev P ρ H (.load t a) K = pK (ρ a) (fun n i j => optK (H n) fun k => optK k.l[i]? fun ch => loadE P K t ch j) (fun c j => loadE P K t c j) := by
  simp only [qev, pK, loadE_eq]
  split
  · rename_i c j hc; simp [hc, loadE_eq]
  · rename_i n i j hc; simp only [hc]
    cases H n with
    | none => rfl
    | some k => simp only [optK]; cases k.l[i]? <;> simp [loadE_eq]
  · rename_i h1 h2
    cases hx : ρ a <;> first | rfl | (exact absurd hx (by first | exact h1 _ _ | exact h2 _ _ _))
theorem qE_fieldAddr (s : TypeId) (x : Operand) (f : Nat) : qev P ρ H (.fieldAddr s x f) K = optK (fldT P s f) fun q => 0 < szT P q.2 ∧ pK (ρ x) (fun n i j => force (AV.ptr n i (j + q.1)) K) (fun c j => force (AV.rp c (j + q.1)) K) := by
  simp only [qev, optK, pK, force]
  cases fldT P s f with
  | none => rfl
  | some q => obtain ⟨o, ft⟩ := q; simp only; cases ρ x <;> rfl
theorem qE_indexAddr (t : TypeId) (x ix : Operand) : qev P ρ H (.indexAddr t x ix) K =
    optK (asI (ρ ix)) fun q => optE (slT P t)
      (fun e => force (szT P e) fun z => iK (ρ x) (fun z' l => (z = z' ∧ 0 < z') ∧ 0 ≤ q.2 ∧ optK l[q.2.toNat]? fun ch => force (AV.rp ch 0) K) (fun n i0 len => (0 ≤ q.2 ∧ q.2 < len) ∧ optK (H n) fun k => (k.e = z ∧ 0 < k.e) ∧ force (AV.ptr n (i0 + q.2.toNat) 0) K) (fun _ _ => False))
      (optK (arT P t) fun me => force (szT P me.2) fun z => (0 ≤ q.2 ∧ q.2 < me.1 ∧ 0 < z) ∧ pK (ρ x) (fun n i0 j => force (AV.ptr n i0 (j + q.2.toNat * z)) K) (fun c j => force (AV.rp c (j + q.2.toNat * z)) K)) := by
  simp only [qev, optK, optE, iK, pK, force]
  cases asI (ρ ix) with
  | none => rfl
  | some q =>
    obtain ⟨kk, i⟩ := q
    simp only
    cases slT P t with
    | some e =>
      simp only
      cases ρ x with
      | ro z l => simp only; cases l[i.toNat]? <;> simp
      | sl n i0 len => simp only; cases H n <;> rfl
      | _ => rfl
    | none =>
      simp only
      cases arT P t with
      | none => rfl
      | some me => obtain ⟨m, e⟩ := me; simp only; cases ρ x <;> rfl
theorem qE_field (t : TypeId) (x : Operand) (f : Nat) : qev P ρ H (.field t x f) K = optK (fldT P t f) fun q => gK (ρ x) fun l => loadE P K q.2 l q.1 := by
  simp only [qev, optK, gK, loadE_eq, partK]
  cases fldT P t f with
  | none => simp
  | some q => obtain ⟨o, ft⟩ := q; simp only; cases ρ x <;> rfl
def indexE (t : TypeId) (i : Int) (l : List AV) : Prop := optK (arT P t) fun me => force (szT P me.2) fun z => (0 ≤ i ∧ i < me.1 ∧ 0 < z) ∧ loadE P K me.2 l (i.toNat * z)
theorem qE_index_g (t : TypeId) (x ix : Operand) (l : List AV) (h : ρ x = .g l) : qev P ρ H (.index t x ix) K = optK (asI (ρ ix)) fun q => indexE P K t q.2 l := by
  simp only [qev, optK, indexE, loadE_eq, force, partK, h]
  cases asI (ρ ix) with
  | none => rfl
  | some q => obtain ⟨k, i⟩ := q; simp only; cases arT P t with
    | none => rfl
    | some me => rfl
theorem qE_extract (x : Operand) (ix : Nat) : qev P ρ H (.extract x ix) K = tK (ρ x) fun l => optK l[ix]? fun a => force a K := by
  simp only [qev, tK, optK, force]
  cases ρ x with
  | t l => simp only; cases l[ix]? <;> simp
  | _ => rfl
theorem qE_binOp (o : BinOp) (t : TypeId) (x y : Operand) (yt : TypeId) : qev P ρ H (.binOp o t x y yt) K = bE P o t (ρ x) (ρ y) K := by
  simp only [qev, bE]
  cases ρ x with
  | v a =>
    cases a <;> (cases ρ y with
      | v b => cases b <;> rfl
      | _ => rfl)
  | _ => cases ρ y with
    | v b => cases b <;> rfl
    | _ => rfl
theorem qE_neg (t : TypeId) (x : Operand) : qev P ρ H (.unOp .neg t x) K = optK (asI (ρ x)) fun q => force (AV.v (.int q.1 (q.1.wrap (0 - q.2)))) K := by
  simp only [qev, optK, force]
  cases ρ x with
  | v a => cases a <;> rfl
  | _ => rfl
theorem qE_not (t : TypeId) (x : Operand) : qev P ρ H (.unOp .not t x) K = bK (ρ x) fun b => force (AV.v (.bool (!b))) K := by
  simp only [qev, bK, force]
  cases ρ x with
  | v a => cases a <;> rfl
  | _ => rfl
theorem qE_convert (s d : TypeId) (x : Operand) : qev P ρ H (.convert s d x) K = optK (asI (ρ x)) fun q => optK (ikT P d) fun k => (P.underlying s).isSome = true ∧ force (AV.v (.int k (k.wrap q.2))) K := by
  simp only [qev, optK, force]
  cases ρ x with
  | v a => cases a <;> first | rfl | (cases ikT P d <;> rfl)
  | _ => cases ikT P d <;> rfl
theorem qE_makeFunc (f : FuncId) (fst caps : Array Operand) : qev P ρ H (.makeFunc (.func f) fst caps) K = (fst = #[] ∧ force (AV.fn f (caps.toList.map ρ)) K) := rfl
theorem qE_build (t : TypeId) (parts : Array (Nat × Operand)) : qev P ρ H (.build t parts) K =
    optK (zeT P t) fun z => optK (bldT P t) fun pl => force (parts.toList.map fun p => (p.1, ρ p.2)) fun ps => optK (fillA (fun i => pl[i]?) (z.map .v) ps) fun c => force (AV.g c) K := by
  simp only [qev, optK, force]
  cases zeT P t with
  | none => rfl
  | some z => cases bldT P t with
    | none => rfl
    | some pl => simp only; cases fillA (fun i => pl[i]?) (z.map .v) (parts.toList.map fun p => (p.1, ρ p.2)) <;> simp
theorem qE_len (t : TypeId) (x : Operand) : qev P ρ H (.call ⟨.builtin .len, #[x], #[t]⟩) K =
    optE (slT P t) (fun _ => force (ρ x) fun a => optK (lenA a) fun n => (match a with | .v (.string _) => False | _ => True) ∧ force (AV.v (goInt n)) K) (P.underlying t = some .string ∧ vK (ρ x) fun v => (match v with | .string s => force (AV.v (goInt s.size)) K | _ => False)) := by
  simp only [qev, optE, optK, vK, force]
  cases slT P t with
  | none => cases ρ x with
    | v a => cases a <;> rfl
    | _ => rfl
  | some e =>
    simp only
    cases hx : ρ x with
    | v a => cases a <;> simp [lenA]
    | _ => simp [lenA]
def intsE : List AV → Option (IntKind × List Int)
  | [] => none
  | [.v (.int k a)] => some (k, [a])
  | .v (.int k a) :: r => (match intsE r with | some (_, l) => some (k, a :: l) | none => none)
  | _ => none
theorem qE_max2 (x y : Operand) (ts : Array TypeId) : qev P ρ H (.call ⟨.builtin .max, #[x, y], ts⟩) K = optK (asI (ρ x)) fun p => optK (asI (ρ y)) fun q => force (AV.v (.int p.1 (max p.2 q.2))) K := by
  simp only [qev, List.map_cons, List.map_nil, optK, force]
  cases hx : ρ x with
  | v a => cases a <;> first | rfl | (cases hy : ρ y with
    | v b => cases b <;> rfl
    | _ => rfl)
  | _ => rfl
theorem qE_min2 (x y : Operand) (ts : Array TypeId) : qev P ρ H (.call ⟨.builtin .min, #[x, y], ts⟩) K = optK (asI (ρ x)) fun p => optK (asI (ρ y)) fun q => force (AV.v (.int p.1 (min p.2 q.2))) K := by
  simp only [qev, List.map_cons, List.map_nil, optK, force]
  cases hx : ρ x with
  | v a => cases a <;> first | rfl | (cases hy : ρ y with
    | v b => cases b <;> rfl
    | _ => rfl)
  | _ => rfl
theorem qE_max3 (x y z : Operand) (ts : Array TypeId) : qev P ρ H (.call ⟨.builtin .max, #[x, y, z], ts⟩) K = optK (asI (ρ x)) fun p => optK (asI (ρ y)) fun q => optK (asI (ρ z)) fun r => force (AV.v (.int p.1 (max (max p.2 q.2) r.2))) K := by
  simp only [qev, List.map_cons, List.map_nil, optK, force]
  cases hx : ρ x with
  | v a => cases a <;> first | rfl | (cases hy : ρ y with
    | v b => cases b <;> first | rfl | (cases hz : ρ z with
      | v c => cases c <;> rfl
      | _ => rfl)
    | _ => rfl)
  | _ => rfl
theorem qE_min3 (x y z : Operand) (ts : Array TypeId) : qev P ρ H (.call ⟨.builtin .min, #[x, y, z], ts⟩) K = optK (asI (ρ x)) fun p => optK (asI (ρ y)) fun q => optK (asI (ρ z)) fun r => force (AV.v (.int p.1 (min (min p.2 q.2) r.2))) K := by
  simp only [qev, List.map_cons, List.map_nil, optK, force]
  cases hx : ρ x with
  | v a => cases a <;> first | rfl | (cases hy : ρ y with
    | v b => cases b <;> first | rfl | (cases hz : ρ z with
      | v c => cases c <;> rfl
      | _ => rfl)
    | _ => rfl)
  | _ => rfl
theorem qE_max4 (x y z u : Operand) (ts : Array TypeId) : qev P ρ H (.call ⟨.builtin .max, #[x, y, z, u], ts⟩) K = optK (asI (ρ x)) fun p => optK (asI (ρ y)) fun q => optK (asI (ρ z)) fun r => optK (asI (ρ u)) fun v => force (AV.v (.int p.1 (max (max (max p.2 q.2) r.2) v.2))) K := by
  simp only [qev, List.map_cons, List.map_nil, optK, force]
  cases hx : ρ x with
  | v a => cases a <;> first | rfl | (cases hy : ρ y with
    | v b => cases b <;> first | rfl | (cases hz : ρ z with
      | v c => cases c <;> first | rfl | (cases hu : ρ u with
        | v d => cases d <;> rfl
        | _ => rfl)
      | _ => rfl)
    | _ => rfl)
  | _ => rfl
theorem qE_nilCheck (x : Operand) : qev P ρ H (.nilCheck x) K = nK (ρ x) fun a => force a K := by
  simp only [qev, nK, force]; cases ρ x <;> rfl
theorem qE_slice (t : TypeId) (x : Operand) (lo hi mx : Option Operand) : qev P ρ H (.slice t x lo hi mx) K = (ptT P t = none ∧ arT P t = none ∧ force (lo.map ρ) fun lo => force (hi.map ρ) fun hi => force (mx.map ρ) fun mx => slE P H t (ρ x) lo hi mx K) := by
  simp only [qev, slE, force]
  cases ptT P t with
  | some _ => simp
  | none => cases arT P t <;> simp
end
end Go.Eng
