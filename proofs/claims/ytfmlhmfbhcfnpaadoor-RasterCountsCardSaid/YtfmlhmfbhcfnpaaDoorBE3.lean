/- The engine of these proofs, part 3: how a function's text is run over abstract values, and why that is right. Conditions: none (a library text). -/
import Derived.Test.YtfmlhmfbhcfnpaaDoorBE2
set_option linter.unusedSimpArgs false
set_option linter.unusedVariables false
namespace Go.Eng
open Go Go.RowKit

section
variable {α : Type}
def force (x : α) (f : α → Prop) [Tg f] : Prop := f x
def optK (x : Option α) (f : α → Prop) [Tg f] : Prop := match x with | some a => f a | none => False
def optE (x : Option α) (f : α → Prop) (g : Prop) [Tg f] [Tg g] : Prop := match x with | some a => f a | none => g
end
def vK (x : AV) (f : Value → Prop) [Tg f] : Prop := match x with | .v a => f a | _ => False
def bK (x : AV) (f : Bool → Prop) [Tg f] : Prop := match x with | .v (.bool a) => f a | _ => False
def tK (x : AV) (f : List AV → Prop) [Tg f] : Prop := match x with | .t a => f a | _ => False
def fnK (x : AV) (f : Nat → List AV → Prop) [Tg f] : Prop := match x with | .fn a b => f a b | _ => False
def fyK (x : AV) (f : Nat → List AV → Prop) (y : Nat → Array Value → Array Value → Prop) [Tg f] [Tg y] : Prop := match x with | .fn a b => f a b | .v (.func (.yield l) p q) => y l p q | _ => False
def nK (x : AV) (f : AV → Prop) [Tg f] : Prop := match x with | .ptr n i j => f (.ptr n i j) | .rp c j => f (.rp c j) | .fn a b => f (.fn a b) | _ => False
def pK (x : AV) (f : Nat → Nat → Nat → Prop) (g : List AV → Nat → Prop) [Tg f] [Tg g] : Prop := match x with | .ptr n i j => f n i j | .rp c j => g c j | _ => False
def iK (x : AV) (f : Nat → List (List AV) → Prop) (g : Nat → Nat → Nat → Prop) (h : Nat → Nat → Prop) [Tg f] [Tg g] [Tg h] : Prop := match x with | .ro e l => f e l | .sl n i m => g n i m | _ => False
def brK (z : Bool) (a b : Prop) [Tg a] [Tg b] : Prop := (z = true → a) ∧ (z = false → b)

theorem force_eq {α : Type} (x : α) (f : α → Prop) : force x f = f x := rfl
theorem optK_some {α : Type} (x : α) (f : α → Prop) : optK (some x) f = f x := rfl
theorem optE_some {α : Type} (x : α) (f : α → Prop) (g : Prop) : optE (some x) f g = f x := rfl
theorem optE_none {α : Type} (f : α → Prop) (g : Prop) : optE none f g = g := rfl
theorem vK_v (x : Value) (f : Value → Prop) : vK (.v x) f = f x := rfl
theorem bK_v (x : Bool) (f : Bool → Prop) : bK (.v (.bool x)) f = f x := rfl
theorem tK_t (x : List AV) (f : List AV → Prop) : tK (.t x) f = f x := rfl
theorem fnK_fn (x : Nat) (c : List AV) (f : Nat → List AV → Prop) : fnK (.fn x c) f = f x c := rfl
theorem fyK_fn (x : Nat) (c : List AV) (f : Nat → List AV → Prop) (g : Nat → Array Value → Array Value → Prop) : fyK (.fn x c) f g = f x c := rfl
theorem fyK_y (l : Nat) (p q : Array Value) (f : Nat → List AV → Prop) (g : Nat → Array Value → Array Value → Prop) : fyK (.v (.func (.yield l) p q)) f g = g l p q := rfl
theorem nK_ptr (n i j : Nat) (f : AV → Prop) : nK (.ptr n i j) f = f (.ptr n i j) := rfl
theorem pK_ptr (n i j : Nat) (f : Nat → Nat → Nat → Prop) (g : List AV → Nat → Prop) : pK (.ptr n i j) f g = f n i j := rfl
theorem pK_rp (c : List AV) (j : Nat) (f : Nat → Nat → Nat → Prop) (g : List AV → Nat → Prop) : pK (.rp c j) f g = g c j := rfl
theorem brK_true (a b : Prop) : brK true a b = a := by simp [brK]
theorem brK_false (a b : Prop) : brK false a b = b := by simp [brK]
theorem brK_dec (p : Prop) [Decidable p] (a b : Prop) : brK (decide p) a b = ((p → a) ∧ (¬ p → b)) := by simp [brK]
theorem brK_not (z : Bool) (a b : Prop) : brK (!z) a b = brK z b a := by cases z <;> simp [brK]

theorem evA_tmp (t : Nat → AV) (i : Nat) : evA t (.tmp i) = t i := rfl
theorem evA_const (t : Nat → AV) (v : Value) : evA t (.const v) = ofV v := rfl
theorem evA_func (t : Nat → AV) (f : Nat) : evA t (.func f) = .fn f [] := rfl
theorem upd_get (t : Nat → AV) (d i : Nat) (x : AV) : upd t d x i = if i = d then x else t i := rfl
theorem putA_some (n d : Nat) (t : Nat → AV) (h : List (Nat × Blk)) (k : Nat) (z : Aux) (x : AV) : putA ⟨n, t, h, k, z⟩ (some d) x = if d < n then ⟨n, upd t d x, h, k, z⟩ else ⟨n, t, h, k, z⟩ := rfl
theorem putA_none (s : AState) (x : AV) : putA s none x = s := rfl
theorem pushA_eq (n : Nat) (t : Nat → AV) (h : List (Nat × Blk)) (k : Nat) (z : Aux) (b : Blk) : pushA ⟨n, t, h, k, z⟩ b = ⟨n, t, (k, b) :: h, k + 1, z⟩ := rfl
theorem slots_zero (x : AV) (l : List AV) : slots (x :: l) 0 = x := rfl
theorem slots_succ (x : AV) (l : List AV) (i : Nat) : slots (x :: l) (i + 1) = slots l i := rfl
/-- The slots that are known, by name. -/
def tl : List (Nat × AV) → Nat → AV
  | [], _ => .unk
  | (d, x) :: r, i => if i = d then x else tl r i
theorem tl_nil (i : Nat) : tl [] i = .unk := rfl
theorem tl_cons (d : Nat) (x : AV) (r : List (Nat × AV)) (i : Nat) : tl ((d, x) :: r) i = if i = d then x else tl r i := rfl
theorem find_cons (m : Nat) (b : Blk) (r : List (Nat × Blk)) (n : Nat) : find ((m, b) :: r) n = if m = n then some b else find r n := rfl
theorem find_nil (n : Nat) : find [] n = none := rfl
theorem setN_cons (m : Nat) (c : Blk) (r : List (Nat × Blk)) (n : Nat) (b : Blk) : setN ((m, c) :: r) n b = (if m = n then (n, b) else (m, c)) :: setN r n b := rfl
theorem setN_nil (n : Nat) (b : Blk) : setN [] n b = [] := rfl
theorem dropN_nil (ns : List Nat) : dropN ns [] = [] := rfl
theorem dropN_cons (ns : List Nat) (m : Nat) (b : Blk) (r : List (Nat × Blk)) : dropN ns ((m, b) :: r) = if ns.contains m then dropN ns r else (m, b) :: dropN ns r := by
  unfold dropN; rw [List.filter_cons]; cases hc : ns.contains m <;> simp [hc]

def loE (x : Option AV) (F : Nat → Prop) [Tg F] : Prop := match x with | none => F 0 | some a => optK (asI a) fun q => 0 ≤ q.2 ∧ force q.2.toNat F
def hiE (x : Option AV) (n : Nat) (F : Nat → Prop) [Tg F] : Prop := match x with | none => F n | some a => optK (asI a) fun q => 0 ≤ q.2 ∧ force q.2.toNat F
theorem loE_none (F : Nat → Prop) : loE none F = F 0 := rfl
theorem loE_some (a : AV) (F : Nat → Prop) : loE (some a) F = optK (asI a) fun q => 0 ≤ q.2 ∧ force q.2.toNat F := rfl
theorem hiE_none (n : Nat) (F : Nat → Prop) : hiE none n F = F n := rfl
theorem hiE_some (a : AV) (n : Nat) (F : Nat → Prop) : hiE (some a) n F = optK (asI a) fun q => 0 ≤ q.2 ∧ force q.2.toNat F := rfl
def slE (P : Program) (H : Nat → Option Blk) (t : TypeId) (x : AV) (lo hi mx : Option AV) (K : AV → Prop) [Tg K] : Prop := sliceK P H t x lo hi mx K
theorem loE_iff (lo : Option AV) (F : Nat → Prop) : loE lo F ↔ ∃ l : Nat, (match lo with | none => l = 0 | some a => ∃ k i, asI a = some (k, i) ∧ i = (l : Int)) ∧ F l := by
  cases lo with
  | none => simp [loE]
  | some a =>
    simp only [loE, optK, force]
    cases asI a with
    | none => simp
    | some q =>
      obtain ⟨k, i⟩ := q
      constructor
      · rintro ⟨h1, h2⟩; exact ⟨i.toNat, ⟨k, i, rfl, by simp only at h1; omega⟩, h2⟩
      · rintro ⟨l, ⟨k', i', h1, h2⟩, h3⟩
        cases h1; subst h2; exact ⟨by simp, by simpa using h3⟩
theorem hiE_iff (hi : Option AV) (n : Nat) (F : Nat → Prop) : hiE hi n F ↔ ∃ l : Nat, (match (motive := Option AV → Prop) hi with | none => l = n ∧ (none : Option AV) = none | some a => ∃ k i, asI a = some (k, i) ∧ i = (l : Int)) ∧ F l := by
  cases hi with
  | none => simp [hiE]
  | some a =>
    have := loE_iff (some a) F
    exact this

theorem slE_core {P : Program} {H : Nat → Option Blk} {t : TypeId} {x : AV} {lo hi : Option AV} {K : AV → Prop} {n : Nat} {G : Nat → Nat → Prop} (hn : lenA x = some n)
    (hG : ∀ l h, (match x with
      | .v (.string s) => True ∧ P.underlying t = some .string ∧ K (.v (.string (s.extract l h)))
      | .ro e c => (∃ d, slT P t = some d ∧ szT P d = e ∧ 0 < e) ∧ K (.ro e ((c.take h).drop l))
      | .sl m i _ => ∃ d, slT P t = some d ∧ 0 < szT P d ∧ (match H m with | some k => k.e = szT P d ∧ K (.sl m (i + l) (h - l)) | none => False)
      | .v (.slice none 0 0) => (∃ d, slT P t = some d ∧ 0 < szT P d) ∧ K (.v (.slice none 0 0))
      | _ => False) ↔ G l h) : slE P H t x lo hi none K = (loE lo fun l => hiE hi n fun h => (l ≤ h ∧ h ≤ n) ∧ G l h) := by
  apply propext
  rw [loE_iff]
  simp only [hiE_iff]
  unfold slE sliceK
  rw [hn]
  simp only
  constructor
  · rintro ⟨l, h, h1, h2, _, h3, h4, h5⟩
    exact ⟨l, h1, h, h2, ⟨h3, h4⟩, (hG l h).1 h5⟩
  · rintro ⟨l, h1, h, h2, ⟨h3, h4⟩, h5⟩
    exact ⟨l, h, h1, h2, trivial, h3, h4, (hG l h).2 h5⟩

theorem slE_sl (P : Program) (H : Nat → Option Blk) (t : TypeId) (m i n : Nat) (lo hi : Option AV) (K : AV → Prop) : slE P H t (.sl m i n) lo hi none K =
    loE lo fun l => hiE hi n fun h => (l ≤ h ∧ h ≤ n) ∧ optK (slT P t) fun d => optK (H m) fun k => (0 < szT P d ∧ k.e = szT P d) ∧ force (AV.sl m (i + l) (h - l)) K := by
  refine slE_core rfl fun l h => ?_
  simp only [optK, force]
  cases slT P t with
  | none => simp
  | some d => cases H m <;> simp [and_assoc]
theorem slE_ro (P : Program) (H : Nat → Option Blk) (t : TypeId) (e : Nat) (c : List (List AV)) (lo hi : Option AV) (K : AV → Prop) : slE P H t (.ro e c) lo hi none K =
    loE lo fun l => hiE hi c.length fun h => (l ≤ h ∧ h ≤ c.length) ∧ optK (slT P t) fun d => (szT P d = e ∧ 0 < e) ∧ force (AV.ro e ((c.take h).drop l)) K := by
  refine slE_core rfl fun l h => ?_
  simp only [optK, force]
  cases slT P t <;> simp
theorem slE_str (P : Program) (H : Nat → Option Blk) (t : TypeId) (s : ByteArray) (lo hi : Option AV) (K : AV → Prop) : slE P H t (.v (.string s)) lo hi none K =
    loE lo fun l => hiE hi s.size fun h => (l ≤ h ∧ h ≤ s.size) ∧ P.underlying t = some .string ∧ force (AV.v (.string (s.extract l h))) K := by
  refine slE_core rfl fun l h => ?_
  simp only [force]
  simp

def bE (P : Program) (o : BinOp) (t : TypeId) (x y : AV) (K : AV → Prop) [Tg K] : Prop :=
  bV P o t x y K
theorem bE_pp (P : Program) (o : BinOp) (t : TypeId) (n i j n' i' j' : Nat) (K : AV → Prop) : bE P o t (.ptr n i j) (.ptr n' i' j') K = ((n = n' ∧ i = i' ∧ j = j') ∧ ptrV P o t true fun r => force r K) := rfl
theorem bE_p0 (P : Program) (o : BinOp) (t : TypeId) (n i j : Nat) (K : AV → Prop) : bE P o t (.ptr n i j) (.v (.pointer none)) K = ptrV P o t false fun r => force r K := rfl
theorem bE_00 (P : Program) (o : BinOp) (t : TypeId) (K : AV → Prop) : bE P o t (.v (.pointer none)) (.v (.pointer none)) K = ptrV P o t true fun r => force r K := rfl
theorem bE_i (P : Program) (o : BinOp) (t : TypeId) (k k' : IntKind) (a b : Int) (K : AV → Prop) : bE P o t (.v (.int k a)) (.v (.int k' b)) K = binV o (.int k a) (.int k' b) fun r => force r K := rfl
theorem bE_s (P : Program) (o : BinOp) (t : TypeId) (a b : ByteArray) (K : AV → Prop) : bE P o t (.v (.string a)) (.v (.string b)) K = binV o (.string a) (.string b) fun r => force r K := rfl
theorem bE_eql (P : Program) (t : TypeId) (l l' : List AV) (K : AV → Prop) : bE P .eql t (.g l) (.g l') K = optK (intsA l) fun xs => optK (intsA l') fun ys => (xs.length = ys.length ∧ EqK P t xs.length) ∧ force (AV.v (.bool (decide (xs = ys)))) K := by
  simp only [bE, bV, aggV, optK, force]
  cases intsA l <;> cases intsA l' <;> rfl
theorem bE_neq (P : Program) (t : TypeId) (l l' : List AV) (K : AV → Prop) : bE P .neq t (.g l) (.g l') K = optK (intsA l) fun xs => optK (intsA l') fun ys => (xs.length = ys.length ∧ EqK P t xs.length) ∧ force (AV.v (.bool (!decide (xs = ys)))) K := by
  simp only [bE, bV, aggV, optK, force]
  cases intsA l <;> cases intsA l' <;> rfl
theorem intsA_nil : intsA [] = some [] := rfl
theorem intsA_cons (x : Int) (r : List AV) : intsA (.v (.int .i64 x) :: r) = (intsA r).map (x :: ·) := rfl

section
variable (P : Program) (ρ : Operand → AV) (H : Nat → Option Blk) (K : AV → Prop)
def loadE (t : TypeId) (c : List AV) (j : Nat) : Prop :=
  optK (aggT P t) fun b => brK b (force (szT P t) fun z => (0 < z ∧ j + z ≤ c.length) ∧ force (AV.g ((c.drop j).take z)) K) (optK c[j]? fun s => force s K)
theorem loadE_eq (t : TypeId) (c : List AV) (j : Nat) : loadE P K t c j = loadK P t c j K := by
  unfold loadE loadK optK force brK
  cases aggT P t with
  | none => rfl
  | some b => cases b <;> simp <;> (cases c[j]? <;> simp)

theorem qE_move (x : Operand) : qev P ρ H (.move x) K = force (ρ x) K := rfl
theorem qE_assign (x : Operand) : qev P ρ H (.assign x) K = force (ρ x) K := rfl
theorem qE_pick (c a b : Operand) : qev P ρ H (.pick c a b) K = bK (ρ c) fun z => brK z (force (ρ a) K) (force (ρ b) K) := by
  simp only [qev, bK, force, brK]
  split <;> simp_all
  rename_i z _; cases z <;> simp
theorem qE_load (t : TypeId) (a : Operand) : qev P ρ H (.load t a) K = pK (ρ a) (fun n i j => optK (H n) fun k => optK k.l[i]? fun ch => loadE P K t ch j) (fun c j => loadE P K t c j) := by
  simp only [qev, pK, loadE_eq]
  split
  · rename_i c j hc; simp [hc, loadE_eq]
  · rename_i n i j hc; simp only [hc]
    cases H n with
    | none => rfl
    | some k => simp only [optK]; cases k.l[i]? <;> simp [loadE_eq]
  · rename_i h1 h2
    cases hx : ρ a <;> first | rfl | (exact absurd hx (by first | exact h1 _ _ | exact h2 _ _ _))
theorem qE_fieldAddr (s : TypeId) (x : Operand) (f : Nat) : qev P ρ H (.fieldAddr s x f) K = optK (fldT P s f) fun q => 0 < szT P q.2 ∧ pK (ρ x) (fun n i j => force (AV.ptr n i (j + q.1)) K) (fun c j => force (AV.rp c (j + q.1)) K) := by
  simp only [qev, optK, pK, force]
  cases fldT P s f with
  | none => rfl
  | some q => obtain ⟨o, ft⟩ := q; simp only; cases ρ x <;> rfl
theorem qE_indexAddr (t : TypeId) (x ix : Operand) : qev P ρ H (.indexAddr t x ix) K =
    optK (asI (ρ ix)) fun q => optE (slT P t)
      (fun e => force (szT P e) fun z => iK (ρ x) (fun z' l => (z = z' ∧ 0 < z') ∧ 0 ≤ q.2 ∧ optK l[q.2.toNat]? fun ch => force (AV.rp ch 0) K) (fun n i0 len => (0 ≤ q.2 ∧ q.2 < len) ∧ optK (H n) fun k => (k.e = z ∧ 0 < k.e) ∧ force (AV.ptr n (i0 + q.2.toNat) 0) K) (fun _ _ => False))
      (optK (arT P t) fun me => force (szT P me.2) fun z => (0 ≤ q.2 ∧ q.2 < me.1 ∧ 0 < z) ∧ pK (ρ x) (fun n i0 j => force (AV.ptr n i0 (j + q.2.toNat * z)) K) (fun c j => force (AV.rp c (j + q.2.toNat * z)) K)) := by
  simp only [qev, optK, optE, iK, pK, force]
  cases asI (ρ ix) with
  | none => rfl
  | some q =>
    obtain ⟨kk, i⟩ := q
    simp only
    cases slT P t with
    | some e =>
      simp only
      cases ρ x with
      | ro z l => simp only; cases l[i.toNat]? <;> simp
      | sl n i0 len => simp only; cases H n <;> rfl
      | _ => rfl
    | none =>
      simp only
      cases arT P t with
      | none => rfl
      | some me => obtain ⟨m, e⟩ := me; simp only; cases ρ x <;> rfl
def indexE (t : TypeId) (i : Int) (l : List AV) : Prop := optK (arT P t) fun me => force (szT P me.2) fun z => (0 ≤ i ∧ i < me.1 ∧ 0 < z) ∧ loadE P K me.2 l (i.toNat * z)
theorem qE_index_g (t : TypeId) (x ix : Operand) (l : List AV) (h : ρ x = .g l) : qev P ρ H (.index t x ix) K = optK (asI (ρ ix)) fun q => indexE P K t q.2 l := by
  simp only [qev, optK, indexE, loadE_eq, force, partK, h]
  cases asI (ρ ix) with
  | none => rfl
  | some q => obtain ⟨k, i⟩ := q; simp only; cases arT P t with
    | none => rfl
    | some me => rfl
theorem qE_extract (x : Operand) (ix : Nat) : qev P ρ H (.extract x ix) K = tK (ρ x) fun l => optK l[ix]? fun a => force a K := by
  simp only [qev, tK, optK, force]
  cases ρ x with
  | t l => simp only; cases l[ix]? <;> simp
  | _ => rfl
theorem qE_binOp (o : BinOp) (t : TypeId) (x y : Operand) (yt : TypeId) : qev P ρ H (.binOp o t x y yt) K = bE P o t (ρ x) (ρ y) K := rfl
theorem qE_not (t : TypeId) (x : Operand) : qev P ρ H (.unOp .not t x) K = bK (ρ x) fun b => force (AV.v (.bool (!b))) K := by
  simp only [qev, bK, force]
  cases ρ x with
  | v a => cases a <;> rfl
  | _ => rfl
theorem qE_convert (s d : TypeId) (x : Operand) : qev P ρ H (.convert s d x) K = optK (asI (ρ x)) fun q => optK (ikT P d) fun k => (P.underlying s).isSome = true ∧ force (AV.v (.int k (k.wrap q.2))) K := by
  simp only [qev, optK, force]
  cases ρ x with
  | v a => cases a <;> first | rfl | (cases ikT P d <;> rfl)
  | _ => cases ikT P d <;> rfl
theorem qE_makeFunc (f : FuncId) (fst caps : Array Operand) : qev P ρ H (.makeFunc (.func f) fst caps) K = (fst = #[] ∧ force (AV.fn f (caps.toList.map ρ)) K) := rfl
theorem qE_build (t : TypeId) (parts : Array (Nat × Operand)) : qev P ρ H (.build t parts) K =
    optK (zeT P t) fun z => optK (bldT P t) fun pl => force (parts.toList.map fun p => (p.1, ρ p.2)) fun ps => optK (fillA (fun i => pl[i]?) (z.map .v) ps) fun c => force (AV.g c) K := by
  simp only [qev, optK, force]
  cases zeT P t with
  | none => rfl
  | some z => cases bldT P t with
    | none => rfl
    | some pl => simp only; cases fillA (fun i => pl[i]?) (z.map .v) (parts.toList.map fun p => (p.1, ρ p.2)) <;> simp
theorem qE_len (t : TypeId) (x : Operand) : qev P ρ H (.call ⟨.builtin .len, #[x], #[t]⟩) K =
    optE (slT P t) (fun _ => force (ρ x) fun a => optK (lenA a) fun n => (match a with | .v (.string _) => False | _ => True) ∧ force (AV.v (goInt n)) K) (P.underlying t = some .string ∧ vK (ρ x) fun v => (match v with | .string s => force (AV.v (goInt s.size)) K | _ => False)) := by
  simp only [qev, optE, optK, vK, force]
  cases slT P t with
  | none => cases ρ x with
    | v a => cases a <;> rfl
    | _ => rfl
  | some e =>
    simp only
    cases hx : ρ x with
    | v a => cases a <;> simp [lenA]
    | _ => simp [lenA]
theorem qE_max2 (x y : Operand) (ts : Array TypeId) : qev P ρ H (.call ⟨.builtin .max, #[x, y], ts⟩) K = optK (asI (ρ x)) fun p => optK (asI (ρ y)) fun q => force (AV.v (.int p.1 (max p.2 q.2))) K := by
  simp only [qev, List.map_cons, List.map_nil, optK, force]
  cases hx : ρ x with
  | v a => cases a <;> first | rfl | (cases hy : ρ y with
    | v b => cases b <;> rfl
    | _ => rfl)
  | _ => rfl
theorem qE_min2 (x y : Operand) (ts : Array TypeId) : qev P ρ H (.call ⟨.builtin .min, #[x, y], ts⟩) K = optK (asI (ρ x)) fun p => optK (asI (ρ y)) fun q => force (AV.v (.int p.1 (min p.2 q.2))) K := by
  simp only [qev, List.map_cons, List.map_nil, optK, force]
  cases hx : ρ x with
  | v a => cases a <;> first | rfl | (cases hy : ρ y with
    | v b => cases b <;> rfl
    | _ => rfl)
  | _ => rfl
def slK (x : AV) (f : Nat → Nat → Nat → Prop) [Tg f] : Prop := match x with | .sl m i len => f m i len | _ => False
theorem slK_sl (m i len : Nat) (f : Nat → Nat → Nat → Prop) : slK (.sl m i len) f = f m i len := rfl
theorem qE_usd (x : Operand) (ts : Array TypeId) : qev P ρ H (.call ⟨.builtin .unsafeSliceData, #[x], ts⟩) K = slK (ρ x) fun m i len => (0 < len ∧ force (AV.ptr m i 0) K) := by
  simp only [qev, List.map_cons, List.map_nil, slK, force]; cases ρ x <;> rfl
theorem ptrV_eql (P : Program) (t : TypeId) (b : Bool) (K : AV → Prop) : ptrV P .eql t b K = ((∃ d, P.underlying t = some (.pointer d) ∧ 0 < szT P d) ∧ K (.v (.bool b))) := rfl
theorem ptrV_neq (P : Program) (t : TypeId) (b : Bool) (K : AV → Prop) : ptrV P .neq t b K = ((∃ d, P.underlying t = some (.pointer d) ∧ 0 < szT P d) ∧ K (.v (.bool (!b)))) := rfl
theorem qE_nilCheck (x : Operand) : qev P ρ H (.nilCheck x) K = nK (ρ x) fun a => force a K := by
  simp only [qev, nK, force]; cases ρ x <;> rfl
theorem qE_slice (t : TypeId) (x : Operand) (lo hi mx : Option Operand) : qev P ρ H (.slice t x lo hi mx) K = (ptT P t = none ∧ arT P t = none ∧ force (lo.map ρ) fun lo => force (hi.map ρ) fun hi => force (mx.map ρ) fun mx => slE P H t (ρ x) lo hi mx K) := by
  simp only [qev, slE, force]
  cases ptT P t with
  | some _ => simp
  | none => cases arT P t <;> simp
end
end Go.Eng

set_option linter.unusedSimpArgs false
set_option linter.unusedVariables false
namespace Go.Eng
open Go Go.RowKit

section
end

section
variable (P : Program) (n : Nat) (k : List It) (Q : AState → Prop) (s : AState)
theorem vc_end : vcRun P (n + 1) [] Q s = Q s := rfl
theorem vc_skip : vcRun P (n + 1) (.c .skip :: k) Q s = vcRun P n k Q s := rfl
theorem vc_scope (b : Code) : vcRun P (n + 1) (.c (.scope b) :: k) Q s = vcRun P n (.c b :: k) Q s := rfl
theorem vc_ret : vcRun P (n + 1) (.c .ret :: k) Q s = Q s := rfl
theorem vc_seq (a b : Code) : vcRun P (n + 1) (.c (.seq a b) :: k) Q s = vcRun P n (.c a :: .c b :: k) Q s := rfl
theorem vc_cond (c : Operand) (a b : Code) : vcRun P (n + 1) (.c (.cond c a b) :: k) Q s = bK (evA s.t c) fun z => brK z (vcRun P n (.c a :: k) Q s) (vcRun P n (.c b :: k) Q s) := by
  simp only [vcRun, bK, brK]
  split
  · rename_i z hz; rw [hz]
  · rename_i h; cases hx : evA s.t c with
    | v a => cases a <;> first | rfl | exact absurd hx (h _)
    | _ => rfl
theorem vc_block (id : Nat) (b : Code) : vcRun P (n + 1) (.c (.block id b) :: k) Q s = vcRun P n (.c b :: .blk id :: k) Q s := rfl
theorem vc_exit (id : Nat) : vcRun P (n + 1) (.c (.exit id) :: k) Q s = optK (popTo id k) fun k' => vcRun P n k' Q s := by
  simp only [vcRun, optK]
  cases popTo id k <;> rfl
theorem vc_region (id : Nat) (ops : Array Oper) : vcRun P (n + 1) (.c (.region id ops false) :: k) Q s = vcRun P n (.o ops.toList ops :: k) Q s := rfl
theorem vc_draw (id : Nat) (ops : Array Oper) : vcRun P (n + 1) (.c (.region id ops true) :: k) Q s = AtCode P (vcRun P n) (.region id ops true) k Q s := rfl
theorem vc_rangeFunc (f : Operand) (ps : Array Tmp) (as b : Code) : vcRun P (n + 1) (.c (.rangeFunc f ps as b) :: k) Q s = AtCode P (vcRun P n) (.rangeFunc f ps as b) k Q s := rfl
theorem vc_loop (b : Code) : vcRun P (n + 1) (.c (.loop b) :: k) Q s = AtLoop (vcRun P n) b k Q s := rfl
theorem vc_blk (id : Nat) : vcRun P (n + 1) (.blk id :: k) Q s = vcRun P n k Q s := rfl
theorem vc_lp (I : AState → Prop) : vcRun P (n + 1) (.lp I :: k) Q s = I s := rfl
theorem vc_o_nil (all : Array Oper) : vcRun P (n + 1) (.o [] all :: k) Q s = vcRun P n k Q s := rfl
theorem vc_o (d : Option Nat) (op : Op) (ty : TypeId) (pos : String) (af : Array Edge) (r : List Oper) (all : Array Oper) :
    vcRun P (n + 1) (.o (⟨d, op, ty, pos, af, none⟩ :: r) all :: k) Q s = opK P (vcRun P n) ⟨d, op, ty, pos, af, none⟩ (.o r all :: k) Q s := rfl
theorem upd_same (t : Nat → AV) (e : Nat) (x : AV) (h : t e = x) : upd t e x = t := by
  funext i; unfold upd; split
  · rename_i h'; rw [h', h]
  · rfl
/-- Looking at a guard. -/
def gdK (x : AV) (want : Bool) (a b c : Prop) [Tg a] [Tg b] [Tg c] : Prop := match x with | .v (.bool z) => brK (z == want) a b | .v (.tuple ⟨[]⟩) => c | _ => False
theorem gdK_b (z want : Bool) (a b c : Prop) : gdK (.v (.bool z)) want a b c = brK (z == want) a b := rfl
theorem vc_o_guard (d : Option Nat) (op : Op) (ty : TypeId) (pos : String) (af : Array Edge) (j : Nat) (want : Bool) (r : List Oper) (all : Array Oper) :
    vcRun P (n + 1) (.o (⟨d, op, ty, pos, af, some (j, want)⟩ :: r) all :: k) Q s = optK ((all[j]?).bind (·.dst)) fun e => gdK (s.t e) want
      (force (⟨s.n, upd s.t e (.v (.bool want)), s.h, s.k, s.x⟩ : AState) fun s => opK P (vcRun P n) ⟨d, op, ty, pos, af, some (j, want)⟩ (.o r all :: k) Q s) (force (putA ⟨s.n, upd s.t e (.v (.bool (!want))), s.h, s.k, s.x⟩ d un) fun s' => vcRun P n (.o r all :: k) Q s')
      (force (putA s d un) fun s' => vcRun P n (.o r all :: k) Q s') := by
  simp only [vcRun, guardA, optK, gdK, brK, force]
  cases (all[j]?).bind (·.dst) with
  | none => rfl
  | some e =>
    simp only
    cases hx : s.t e with
    | v a => cases a with
      | bool b =>
        obtain ⟨n', t', h', k', x'⟩ := s
        simp only at hx
        cases b <;> cases want <;> simp [upd_same t' e _ hx, brK]
      | tuple l =>
        obtain ⟨l⟩ := l
        cases l with
        | nil => cases want <;> simp
        | cons _ _ => rfl
      | _ => rfl
    | _ => rfl
theorem popTo_blk (id id' : Nat) : popTo id (.blk id' :: k) = if id' = id then some k else popTo id k := rfl
theorem popTo_c (id : Nat) (c : Code) : popTo id (.c c :: k) = popTo id k := rfl
theorem popTo_lp (id : Nat) (I : AState → Prop) : popTo id (.lp I :: k) = popTo id k := rfl
end

section
variable (P : Program) (rec : List It → (AState → Prop) → AState → Prop) (d : Option Nat) (ty : TypeId) (pos : String) (af : Array Edge) (g : Option (Nat × Bool)) (k : List It) (Q : AState → Prop) (s : AState)
/-- On with the value. -/
def onK (av : AV) : Prop := force (putA s d av) fun s' => rec k Q s'
theorem onK_eq (av : AV) : onK rec d k Q s av = force (putA s d av) fun s' => rec k Q s' := rfl
theorem oK_move (x : Operand) : opK P rec ⟨d, .move x, ty, pos, af, g⟩ k Q s = qev P (evA s.t) (find s.h) (.move x) (onK rec d k Q s) := rfl
theorem oK_assign (x : Operand) : opK P rec ⟨d, .assign x, ty, pos, af, g⟩ k Q s = qev P (evA s.t) (find s.h) (.assign x) (onK rec d k Q s) := rfl
theorem oK_pick (x y z : Operand) : opK P rec ⟨d, .pick x y z, ty, pos, af, g⟩ k Q s = qev P (evA s.t) (find s.h) (.pick x y z) (onK rec d k Q s) := rfl
theorem oK_load (t : TypeId) (x : Operand) : opK P rec ⟨d, .load t x, ty, pos, af, g⟩ k Q s = qev P (evA s.t) (find s.h) (.load t x) (onK rec d k Q s) := rfl
theorem oK_fieldAddr (t : TypeId) (x : Operand) (f : Nat) : opK P rec ⟨d, .fieldAddr t x f, ty, pos, af, g⟩ k Q s = qev P (evA s.t) (find s.h) (.fieldAddr t x f) (onK rec d k Q s) := rfl
theorem oK_indexAddr (t : TypeId) (x y : Operand) : opK P rec ⟨d, .indexAddr t x y, ty, pos, af, g⟩ k Q s = qev P (evA s.t) (find s.h) (.indexAddr t x y) (onK rec d k Q s) := rfl
theorem oK_index (t : TypeId) (x y : Operand) : opK P rec ⟨d, .index t x y, ty, pos, af, g⟩ k Q s = qev P (evA s.t) (find s.h) (.index t x y) (onK rec d k Q s) := rfl
theorem oK_extract (x : Operand) (i : Nat) : opK P rec ⟨d, .extract x i, ty, pos, af, g⟩ k Q s = qev P (evA s.t) (find s.h) (.extract x i) (onK rec d k Q s) := rfl
def nilE (y : Operand) (A B : Prop) [Tg A] [Tg B] : Prop := if nilC y = true then A else B
theorem nilE_tmp (j : Nat) (A B : Prop) : nilE (.tmp j) A B = B := rfl
theorem nilE_int (q : IntKind) (j : Int) (A B : Prop) : nilE (.const (.int q j)) A B = B := rfl
theorem nilE_str (b : ByteArray) (A B : Prop) : nilE (.const (.string b)) A B = B := rfl
theorem nilE_ptr (b : Option Addr) (A B : Prop) : nilE (.const (.pointer b)) A B = B := rfl
theorem nilE_nil (A B : Prop) : nilE (.const (.slice none 0 0)) A B = A := rfl
theorem oK_binOp (o : BinOp) (t : TypeId) (x y : Operand) (u : TypeId) : opK P rec ⟨d, .binOp o t x y u, ty, pos, af, g⟩ k Q s = nilE y (AtOp P rec ⟨d, .binOp o t x y u, ty, pos, af, g⟩ k Q s) (qev P (evA s.t) (find s.h) (.binOp o t x y u) (onK rec d k Q s)) := rfl
theorem oK_unOp (o : UnOp) (t : TypeId) (x : Operand) : opK P rec ⟨d, .unOp o t x, ty, pos, af, g⟩ k Q s = qev P (evA s.t) (find s.h) (.unOp o t x) (onK rec d k Q s) := rfl
theorem oK_convert (t u : TypeId) (x : Operand) : opK P rec ⟨d, .convert t u x, ty, pos, af, g⟩ k Q s = optE (ikT P u) (fun _ => qev P (evA s.t) (find s.h) (.convert t u x) (onK rec d k Q s)) (AtOp P rec ⟨d, .convert t u x, ty, pos, af, g⟩ k Q s) := by
  simp only [opK, optE]
  cases ikT P u <;> rfl
theorem oK_makeFunc (f : Fn) (x y : Array Operand) : opK P rec ⟨d, .makeFunc f x y, ty, pos, af, g⟩ k Q s = qev P (evA s.t) (find s.h) (.makeFunc f x y) (onK rec d k Q s) := rfl
theorem oK_nilCheck (x : Operand) : opK P rec ⟨d, .nilCheck x, ty, pos, af, g⟩ k Q s = qev P (evA s.t) (find s.h) (.nilCheck x) (onK rec d k Q s) := rfl
theorem oK_slice (t : TypeId) (x : Operand) (lo hi mx : Option Operand) : opK P rec ⟨d, .slice t x lo hi mx, ty, pos, af, g⟩ k Q s = optE (arT P t) (fun _ => AtOp P rec ⟨d, .slice t x lo hi mx, ty, pos, af, g⟩ k Q s) (qev P (evA s.t) (find s.h) (.slice t x lo hi mx) (onK rec d k Q s)) := by
  unfold opK optE
  simp only
  cases arT P t <;> rfl
theorem oK_build (t : TypeId) (x : Array (Nat × Operand)) : opK P rec ⟨d, .build t x, ty, pos, af, g⟩ k Q s = qev P (evA s.t) (find s.h) (.build t x) (onK rec d k Q s) := rfl
theorem oK_len (xs : Array Operand) (ts : Array TypeId) : opK P rec ⟨d, .call ⟨.builtin .len, xs, ts⟩, ty, pos, af, g⟩ k Q s = qev P (evA s.t) (find s.h) (.call ⟨.builtin .len, xs, ts⟩) (onK rec d k Q s) := rfl
theorem oK_max (xs : Array Operand) (ts : Array TypeId) : opK P rec ⟨d, .call ⟨.builtin .max, xs, ts⟩, ty, pos, af, g⟩ k Q s = qev P (evA s.t) (find s.h) (.call ⟨.builtin .max, xs, ts⟩) (onK rec d k Q s) := rfl
theorem oK_ustr (xs : Array Operand) (ts : Array TypeId) : opK P rec ⟨d, .call ⟨.builtin .unsafeString, xs, ts⟩, ty, pos, af, g⟩ k Q s = AtOp P rec ⟨d, .call ⟨.builtin .unsafeString, xs, ts⟩, ty, pos, af, g⟩ k Q s := rfl
theorem oK_min (xs : Array Operand) (ts : Array TypeId) : opK P rec ⟨d, .call ⟨.builtin .min, xs, ts⟩, ty, pos, af, g⟩ k Q s = qev P (evA s.t) (find s.h) (.call ⟨.builtin .min, xs, ts⟩) (onK rec d k Q s) := rfl
/-- On with a new block. -/
def onN (av : AV) (b : Blk) : Prop := force (pushA s b) fun s' => onK rec d k Q s' av
theorem onN_eq (av : AV) (b : Blk) : onN rec d k Q s av b = force (pushA s b) fun s' => onK rec d k Q s' av := rfl
theorem oK_box (t : TypeId) (x : Operand) : opK P rec ⟨d, .box t x, ty, pos, af, g⟩ k Q s = optK (cellsA (evA s.t x)) fun l => onN rec d k Q s (.ptr s.k 0 0) ⟨l.length, [l]⟩ := by
  simp only [opK, nev, optK, onN, onK, force]
  cases cellsA (evA s.t x) <;> rfl
theorem oK_alloc (t : TypeId) : opK P rec ⟨d, .alloc t, ty, pos, af, g⟩ k Q s = if selfT P t = true then AtOp P rec ⟨d, .alloc t, ty, pos, af, g⟩ k Q s else optK (zeT P t) fun z => force (z.map AV.v) fun l => onN rec d k Q s (.ptr s.k 0 0) ⟨l.length, [l]⟩ := by
  simp only [opK, nev, optK, onN, onK, force, List.length_map]
  by_cases h : selfT P t = true
  · rw [if_pos h, if_pos h]
  · rw [if_neg h, if_neg h]; cases zeT P t <;> rfl
theorem oK_buildSlice (t : TypeId) (len : Nat) (parts : Array (Nat × Operand)) : opK P rec ⟨d, .buildSlice t len parts, ty, pos, af, g⟩ k Q s =
    optK (slT P t) fun e => force (szT P e) fun z => (0 < z ∧ len * z ≤ 16777216 ∧ (zeT P e).isSome = true ∧ parts.toList.map (·.1) = List.range len) ∧
      force (parts.toList.map fun p => evA s.t p.2) fun xs => optK (chunksA z xs) fun cs => onN rec d k Q s (.sl s.k 0 len) ⟨z, cs⟩ := by
  simp only [opK, nev, optK, onN, onK, force]
  cases slT P t with
  | none => rfl
  | some e => simp only; cases chunksA (szT P e) (parts.toList.map fun p => evA s.t p.2) <;> simp
theorem oK_makeSlice (t : TypeId) (l c : Operand) : opK P rec ⟨d, .makeSlice t l c, ty, pos, af, g⟩ k Q s =
    optK (slT P t) fun e => optK (asI (evA s.t l)) fun x => optK (asI (evA s.t c)) fun y => force (szT P e) fun z => (0 < z ∧ 0 ≤ x.2 ∧ x.2 ≤ y.2 ∧ y.2 ≤ 274877906944 ∧ byT P e ≤ 256) ∧
      optK (zeT P e) fun w => w.length = z ∧ force (List.replicate x.2.toNat (w.map AV.v)) fun cs => onN rec d k Q s (.sl s.k 0 x.2.toNat) ⟨z, cs⟩ := by
  simp only [opK, nev, optK, onN, onK, force]
  cases slT P t with
  | none => rfl
  | some e => simp only; cases asI (evA s.t l) with
    | none => rfl
    | some x =>
      obtain ⟨kx, x⟩ := x
      cases asI (evA s.t c) with
      | none => rfl
      | some y => obtain ⟨ky, y⟩ := y; simp only; cases zeT P e <;> rfl
/-- On with other blocks. -/
def onH (h : List (Nat × Blk)) (av : AV) : Prop := force h fun h' => onK rec d k Q { s with h := h' } av
theorem onH_eq (h : List (Nat × Blk)) (av : AV) : onH rec d k Q s h av = force h fun h' => onK rec d k Q { s with h := h' } av := rfl
theorem oK_store (t : TypeId) (p x : Operand) : opK P rec ⟨d, .store t p x, ty, pos, af, g⟩ k Q s =
    optK (cellsA (evA s.t x)) fun l => pK (evA s.t p) (fun n i j => optK (find s.h n) fun b => optK b.l[i]? fun ch => (0 < szT P t ∧ l.length = szT P t ∧ j + l.length ≤ ch.length ∧ l.all oneA = true) ∧
      force (newCh ch j l) fun c' => force (b.l.set i c') fun l' => onH rec d k Q s (setN s.h n ⟨b.e, l'⟩) .unk) (fun _ _ => False) := by
  simp only [opK, stK, optK, pK, onH, onK, force]
  cases cellsA (evA s.t x) with
  | none => cases evA s.t p <;> rfl
  | some l =>
    cases evA s.t p with
    | ptr n i j =>
      simp only
      cases find s.h n with
      | none => rfl
      | some b => simp only; cases b.l[i]? <;> simp
    | _ => rfl
/-- On behind an append. -/
def onA (ns : List Nat) (z : Nat) (l : List (List AV)) : Prop := force (dropN ns s.h) fun h' => force (pushA { s with h := h' } ⟨z, l⟩) fun s' => force l.length fun m => onK rec d k Q s' (.sl s.k 0 m)
theorem onA_eq (ns : List Nat) (z : Nat) (l : List (List AV)) : onA rec d k Q s ns z l = force (dropN ns s.h) fun h' => force (pushA { s with h := h' } ⟨z, l⟩) fun s' => force l.length fun m => onK rec d k Q s' (.sl s.k 0 m) := rfl
def srcE (H : Nat → Option Blk) (z : Nat) (x : AV) (K : List (List AV) → Prop) [Tg K] : Prop := srcK H z x K
theorem srcE_ro (H : Nat → Option Blk) (z e : Nat) (l : List (List AV)) (K : List (List AV) → Prop) : srcE H z (.ro e l) K = (e = z ∧ K l) := rfl
theorem srcE_sl (H : Nat → Option Blk) (z n i m : Nat) (K : List (List AV) → Prop) : srcE H z (.sl n i m) K = optK (H n) fun b => b.e = z ∧ i + m ≤ b.l.length ∧ force (takeA i m b.l) K := by
  simp only [srcE, srcK, optK, force]
  cases H n <;> rfl
theorem srcE_str (H : Nat → Option Blk) (z : Nat) (b : ByteArray) (K : List (List AV) → Prop) : srcE H z (.v (.string b)) K = (z = 1 ∧ K (b.data.toList.map fun b => [.v (.int .u8 b.toNat)])) := rfl
def dstE (H : Nat → Option Blk) (z : Nat) (x : AV) (K : List Nat → List (List AV) → Prop) [Tg K] : Prop := dstK H z x K
theorem dstE_sl (H : Nat → Option Blk) (z n i m : Nat) (K : List Nat → List (List AV) → Prop) : dstE H z (.sl n i m) K = optK (H n) fun b => b.e = z ∧ i + m ≤ b.l.length ∧ force (takeA i m b.l) (K [n]) := by
  simp only [dstE, dstK, optK, force]
  cases H n <;> rfl
theorem dstE_nil (H : Nat → Option Blk) (z : Nat) (K : List Nat → List (List AV) → Prop) : dstE H z (.v (.slice none 0 0)) K = K [] [] := rfl
theorem apK_E (a b : Operand) (t u : TypeId) (hu2 : ikT P u = none) : (apK P (evA s.t) (find s.h) [a, b] [t, u] fun ns z l => rec k Q (putA (pushA { s with h := dropN ns s.h } ⟨z, l⟩) d (.sl s.k 0 l.length))) = (
    optK (slT P t) fun e => force (szT P e) fun z => (0 < z ∧ byT P e ≤ 256 ∧ optK (zeT P e) fun w => w.length = z) ∧ (P.underlying u).isSome = true ∧
      force (evA s.t a) fun x => force (evA s.t b) fun y => dstE (find s.h) z x fun ns dl => srcE (find s.h) z y fun sl =>
        dl.length + sl.length ≤ 274877906944 ∧ (∀ c ∈ sl, ∀ q ∈ c, oneA q = true) ∧ force (dl ++ sl) fun l => onA rec d k Q s ns z l) := by
  simp only [apK, optK, onA, onK, force, srcE, dstE, hu2]
  cases slT P t with
  | none => rfl
  | some e => simp only; cases zeT P e <;> simp
theorem oK_append (a b : Operand) (t u : TypeId) : opK P rec ⟨d, .call ⟨.builtin .append, #[a, b], #[t, u]⟩, ty, pos, af, g⟩ k Q s =
    if ((ikT P u).isSome || u8C P t) = true then AtOp P rec ⟨d, .call ⟨.builtin .append, #[a, b], #[t, u]⟩, ty, pos, af, g⟩ k Q s else
    optK (slT P t) fun e => force (szT P e) fun z => (0 < z ∧ byT P e ≤ 256 ∧ optK (zeT P e) fun w => w.length = z) ∧ (P.underlying u).isSome = true ∧
      force (evA s.t a) fun x => force (evA s.t b) fun y => dstE (find s.h) z x fun ns dl => srcE (find s.h) z y fun sl =>
        dl.length + sl.length ≤ 274877906944 ∧ (∀ c ∈ sl, ∀ q ∈ c, oneA q = true) ∧ force (dl ++ sl) fun l => onA rec d k Q s ns z l := by
  have e1 : opK P rec ⟨d, .call ⟨.builtin .append, #[a, b], #[t, u]⟩, ty, pos, af, g⟩ k Q s = if ((ikT P u).isSome || u8C P t) = true then AtOp P rec ⟨d, .call ⟨.builtin .append, #[a, b], #[t, u]⟩, ty, pos, af, g⟩ k Q s else
    apK P (evA s.t) (find s.h) [a, b] [t, u] fun ns z l => rec k Q (putA (pushA { s with h := dropN ns s.h } ⟨z, l⟩) d (.sl s.k 0 l.length)) := rfl
  rw [e1]
  by_cases hu : ((ikT P u).isSome || u8C P t) = true
  · rw [if_pos hu, if_pos hu]
  · rw [if_neg hu, if_neg hu]
    have hu2 : ikT P u = none := by cases h : ikT P u <;> simp_all
    exact apK_E P rec d k Q s a b t u hu2
theorem AtOp.appE (a b : Operand) (t u : TypeId) (hu2 : ikT P u = none) (hk : optK (slT P t) fun e => force (szT P e) fun z => (0 < z ∧ byT P e ≤ 256 ∧ optK (zeT P e) fun w => w.length = z) ∧ (P.underlying u).isSome = true ∧
      force (evA s.t a) fun x => force (evA s.t b) fun y => dstE (find s.h) z x fun ns dl => srcE (find s.h) z y fun sl =>
        dl.length + sl.length ≤ 274877906944 ∧ (∀ c ∈ sl, ∀ q ∈ c, oneA q = true) ∧ force (dl ++ sl) fun l => onA rec d k Q s ns z l) : AtOp P rec ⟨d, .call ⟨.builtin .append, #[a, b], #[t, u]⟩, ty, pos, af, g⟩ k Q s :=
  AtOp.app rfl (by rw [← apK_E P rec d k Q s a b t u hu2] at hk; exact hk)
theorem oK_call (f : Operand) (xs : Array Operand) (ts : Array TypeId) : opK P rec ⟨d, .call ⟨.value f, xs, ts⟩, ty, pos, af, g⟩ k Q s =
    fyK (evA s.t f) (fun fi caps => force (xs.toList.map (evA s.t) ++ caps) fun as => AtFn P rec ⟨d, .call ⟨.value f, xs, ts⟩, ty, pos, af, g⟩ fi as k Q s)
      (fun l p q => force (xs.toList.map (evA s.t)) fun as => AtYl P rec ⟨d, .call ⟨.value f, xs, ts⟩, ty, pos, af, g⟩ l p q as k Q s) := by
  simp only [opK, fyK, force]
  cases evA s.t f with
  | v x => cases x with
    | func x p q => cases x <;> rfl
    | _ => rfl
  | _ => rfl
theorem oK_range (t : TypeId) (x : Operand) : opK P rec ⟨d, .range t x, ty, pos, af, g⟩ k Q s = AtOp P rec ⟨d, .range t x, ty, pos, af, g⟩ k Q s := rfl
theorem oK_next (x : Operand) (b : Bool) : opK P rec ⟨d, .next x b, ty, pos, af, g⟩ k Q s = AtOp P rec ⟨d, .next x b, ty, pos, af, g⟩ k Q s := rfl
end

section
variable (P : Program) (s : AState)
theorem fin_eq (rs : List ResultVar) (R : AV) : FinA P rs R s = resK P s rs fun l => tupA l = R := rfl
theorem res_nil (K : List AV → Prop) : resK P s [] K = K [] := rfl
theorem res_tmp (t : Nat) (rs : List ResultVar) (K : List AV → Prop) : resK P s (.tmp t :: rs) K = force (frzA (find s.h) 4 (s.t t)) fun x => resK P s rs fun l => K (x :: l) := rfl
theorem res_cell (a : Nat) (t : TypeId) (rs : List ResultVar) (K : List AV → Prop) : resK P s (.cell a t :: rs) K =
    pK (s.t a) (fun n i j => optK (find s.h n) fun b => optK b.l[i]? fun ch => loadE P (fun av => force (frzA (find s.h) 4 av) fun x => resK P s rs fun l => K (x :: l)) t ch j) (fun _ _ => False) := by
  simp only [resK, res1, pK, optK, loadE_eq, force]
  cases s.t a with
  | ptr n i j =>
    simp only
    cases find s.h n with
    | none => rfl
    | some b => simp only; cases b.l[i]? <;> simp
  | _ => rfl
theorem tup1 (x : AV) : tupA [x] = x := rfl
theorem tup0 : tupA [] = .t [] := rfl
end

section
variable (H : Nat → Option Blk) (d : Nat)
def optA {α : Type} (x : Option α) (f : α → AV) : AV := match x with | some a => f a | none => .unk
theorem optA_some {α : Type} (x : α) (f : α → AV) : optA (some x) f = f x := rfl
theorem frz_v (x : Value) : frzA H (d + 1) (.v x) = .v x := rfl
theorem frz_ro (e : Nat) (l : List (List AV)) : frzA H (d + 1) (.ro e l) = .ro e l := rfl
theorem frz_rp (l : List AV) (j : Nat) : frzA H (d + 1) (.rp l j) = .rp l j := rfl
theorem frz_g (l : List AV) : frzA H (d + 1) (.g l) = .g (l.map (frzA H d)) := rfl
theorem frz_fn (f : Nat) (l : List AV) : frzA H (d + 1) (.fn f l) = .fn f (l.map (frzA H d)) := rfl
theorem frz_ptr (n i j : Nat) : frzA H (d + 1) (.ptr n i j) = optA (H n) fun k => optA k.l[i]? fun ch => .rp (ch.map (frzA H d)) j := by
  simp only [frzA, optA]
  cases H n with
  | none => rfl
  | some k => simp only; cases k.l[i]? <;> rfl
theorem frz_sl (n i len : Nat) : frzA H (d + 1) (.sl n i len) = optA (H n) fun k => if i + len ≤ k.l.length then .ro k.e (takeA i len k.l) else .unk := by
  simp only [frzA, optA]
  cases H n <;> rfl
def optL {α β : Type} (x : Option α) (f : α → List β) : List β := match x with | some a => f a | none => []
theorem optL_some {α β : Type} (x : α) (f : α → List β) : optL (some x) f = f x := rfl
theorem nm_v (x : Value) : namesA H (d + 1) (.v x) = [] := rfl
theorem nm_ro (e : Nat) (l : List (List AV)) : namesA H (d + 1) (.ro e l) = [] := rfl
theorem nm_rp (l : List AV) (j : Nat) : namesA H (d + 1) (.rp l j) = [] := rfl
theorem nm_g (l : List AV) : namesA H (d + 1) (.g l) = l.flatMap (namesA H d) := rfl
theorem nm_fn (f : Nat) (l : List AV) : namesA H (d + 1) (.fn f l) = l.flatMap (namesA H d) := rfl
theorem nm_ptr (n i j : Nat) : namesA H (d + 1) (.ptr n i j) = n :: optL (H n) fun k => optL k.l[i]? fun ch => ch.flatMap (namesA H d) := by
  simp only [namesA, optL]
  cases H n with
  | none => rfl
  | some k => simp only; cases k.l[i]? <;> rfl
theorem nm_sl (n i len : Nat) : namesA H (d + 1) (.sl n i len) = [n] := rfl
theorem cells_v (x : Value) : cellsA (.v x) = if x.oneCell' then some [.v x] else none := rfl
theorem cells_g (l : List AV) : cellsA (.g l) = some l := rfl
theorem cells_ro (e : Nat) (l : List (List AV)) : cellsA (.ro e l) = some [.ro e l] := rfl
theorem cells_ptr (n i j : Nat) : cellsA (.ptr n i j) = some [.ptr n i j] := rfl
theorem cells_sl (n i j : Nat) : cellsA (.sl n i j) = some [.sl n i j] := rfl
theorem one_int (k : IntKind) (x : Int) : (Value.int k x).oneCell' = true := rfl
theorem one_string (x : ByteArray) : (Value.string x).oneCell' = true := rfl
theorem one_slice (a : Option Addr) (n m : Nat) : (Value.slice a n m).oneCell' = true := rfl
theorem oneA_v (x : Value) : oneA (.v x) = x.oneCell' := rfl
theorem oneA_ro (e : Nat) (l : List (List AV)) : oneA (.ro e l) = true := rfl
theorem oneA_ptr (n i j : Nat) : oneA (.ptr n i j) = true := rfl
theorem oneA_sl (n i j : Nat) : oneA (.sl n i j) = true := rfl
theorem ofV_int (k : IntKind) (x : Int) : ofV (.int k x) = .v (.int k x) := rfl
theorem ofV_bool (x : Bool) : ofV (.bool x) = .v (.bool x) := rfl
theorem ofV_string (x : ByteArray) : ofV (.string x) = .v (.string x) := rfl
theorem ofV_slice (a : Option Addr) (n m : Nat) : ofV (.slice a n m) = .v (.slice a n m) := rfl
theorem ofV_nilFunc : ofV .nilFunc = .v .nilFunc := rfl
theorem ofV_pointer (a : Option Addr) : ofV (.pointer a) = .v (.pointer a) := rfl
theorem len_ro (e : Nat) (l : List (List AV)) : lenA (.ro e l) = some l.length := rfl
theorem len_sl (n i m : Nat) : lenA (.sl n i m) = some m := rfl
theorem asI_int (k : IntKind) (x : Int) : asI (.v (.int k x)) = some (k, x) := rfl
theorem fill_nil (pl : Nat → Option (Nat × Nat)) (c : List AV) : fillA pl c [] = some c := rfl
theorem fill_cons (pl : Nat → Option (Nat × Nat)) (c : List AV) (i : Nat) (a : AV) (r : List (Nat × AV)) :
    fillA pl c ((i, a) :: r) = (pl i).bind fun oz => (cellsA a).bind fun l => if l.length = oz.2 ∧ oz.1 + l.length ≤ c.length then fillA pl (c.take oz.1 ++ l ++ c.drop (oz.1 + l.length)) r else none := by
  simp only [fillA]
  cases pl i with
  | none => rfl
  | some oz => obtain ⟨o, z⟩ := oz; cases cellsA a <;> rfl
theorem chunks_nil (z : Nat) : chunksA z [] = some [] := rfl
theorem chunks_cons (z : Nat) (x : AV) (r : List AV) : chunksA z (x :: r) = (cellsA x).bind fun c => (chunksA z r).bind fun l => if c.length = z then some (c :: l) else none := by
  simp only [chunksA]
  cases cellsA x with
  | none => rfl
  | some c => cases chunksA z r <;> rfl
theorem bV_add (k k' : IntKind) (x y : Int) (K : AV → Prop) : binV .add (.int k x) (.int k' y) K = (k = k' ∧ K (.v (.int k (k.wrap (x + y))))) := rfl
theorem bV_sub (k k' : IntKind) (x y : Int) (K : AV → Prop) : binV .sub (.int k x) (.int k' y) K = (k = k' ∧ K (.v (.int k (k.wrap (x - y))))) := rfl
theorem bV_mul (k k' : IntKind) (x y : Int) (K : AV → Prop) : binV .mul (.int k x) (.int k' y) K = (k = k' ∧ K (.v (.int k (k.wrap (x * y))))) := rfl
theorem bV_quo (k k' : IntKind) (x y : Int) (K : AV → Prop) : binV .quo (.int k x) (.int k' y) K = (k = k' ∧ y ≠ 0 ∧ K (.v (.int k (k.wrap (x.tdiv y))))) := rfl
theorem bV_rem (k k' : IntKind) (x y : Int) (K : AV → Prop) : binV .rem (.int k x) (.int k' y) K = (k = k' ∧ y ≠ 0 ∧ K (.v (.int k (x.tmod y)))) := rfl
theorem bV_and (k k' : IntKind) (x y : Int) (K : AV → Prop) : binV .and (.int k x) (.int k' y) K = (k = k' ∧ K (.v (.int k (k.wrap (BitVec.ofInt k.bits x &&& BitVec.ofInt k.bits y).toNat)))) := rfl
theorem bV_or (k k' : IntKind) (x y : Int) (K : AV → Prop) : binV .or (.int k x) (.int k' y) K = (k = k' ∧ K (.v (.int k (k.wrap (BitVec.ofInt k.bits x ||| BitVec.ofInt k.bits y).toNat)))) := rfl
theorem bV_shl (k k1 : IntKind) (x y : Int) (K : AV → Prop) : binV .shl (.int k x) (.int k1 y) K = (0 ≤ y ∧ K (.v (.int k (k.wrap (x * 2 ^ (min y.toNat k.bits)))))) := rfl
theorem bV_shr (k k1 : IntKind) (x y : Int) (K : AV → Prop) : binV .shr (.int k x) (.int k1 y) K = (0 ≤ y ∧ K (.v (.int k (x.fdiv (2 ^ (min y.toNat k.bits)))))) := rfl
theorem bV_eql (k k' : IntKind) (x y : Int) (K : AV → Prop) : binV .eql (.int k x) (.int k' y) K = (k = k' ∧ K (.v (.bool (decide (x = y))))) := rfl
theorem bV_neq (k k' : IntKind) (x y : Int) (K : AV → Prop) : binV .neq (.int k x) (.int k' y) K = (k = k' ∧ K (.v (.bool (!decide (x = y))))) := rfl
theorem bV_lss (k k' : IntKind) (x y : Int) (K : AV → Prop) : binV .lss (.int k x) (.int k' y) K = (k = k' ∧ K (.v (.bool (decide (x < y))))) := rfl
theorem bV_leq (k k' : IntKind) (x y : Int) (K : AV → Prop) : binV .leq (.int k x) (.int k' y) K = (k = k' ∧ K (.v (.bool (decide (x ≤ y))))) := rfl
theorem bV_gtr (k k' : IntKind) (x y : Int) (K : AV → Prop) : binV .gtr (.int k x) (.int k' y) K = (k = k' ∧ K (.v (.bool (decide (y < x))))) := rfl
theorem bV_geq (k k' : IntKind) (x y : Int) (K : AV → Prop) : binV .geq (.int k x) (.int k' y) K = (k = k' ∧ K (.v (.bool (decide (y ≤ x))))) := rfl
theorem bV_add_s (x y : ByteArray) (K : AV → Prop) : binV .add (.string x) (.string y) K = (x.size + y.size ≤ 9223372036854775807 ∧ K (.v (.string (x ++ y)))) := rfl
theorem bV_eql_s (x y : ByteArray) (K : AV → Prop) : binV .eql (.string x) (.string y) K = (K (.v (.bool (x.toList == y.toList)))) := rfl
theorem bV_neq_s (x y : ByteArray) (K : AV → Prop) : binV .neq (.string x) (.string y) K = (K (.v (.bool (!(x.toList == y.toList))))) := rfl
end

/-- A call by the function's answer: what is frozen is worked out by rewriting. -/
theorem AtFn.pure {P : Program} {rec : List It → (AState → Prop) → AState → Prop} {o : Oper} {f : FuncId} {as as' : List AV} {k : List It} {Q : AState → Prop} {s : AState} {R : AV}
    (hfun : PFun P f as' R) (hk : force (as.map (frzA (find s.h) 3)) fun x => x = as' ∧ (∀ a ∈ as', Cl a) ∧ force (dropN (as.flatMap (namesA (find s.h) 3)) s.h) fun h' => force (putA { s with h := h' } o.dst R) fun s' => rec k Q s') : AtFn P rec o f as k Q s := by
  obtain ⟨h1, h2, h3⟩ := hk
  exact AtFn.pure' h1 rfl hfun h2 h3
end Go.Eng

set_option linter.unusedSimpArgs false
set_option linter.unusedVariables false
namespace Go.Eng
open Go Go.RowKit

theorem loadK_det {P : Program} {t : TypeId} {c : List AV} {j : Nat} {K : AV → Prop} (h : loadK P t c j K) : ∃ av, K av ∧ loadK P t c j (· = av) := by
  unfold loadK at *
  split at h
  · exact ⟨_, h.2, h.1, rfl⟩
  · obtain ⟨s, h1, h2⟩ := h; exact ⟨s, h2, s, h1, rfl⟩
  · exact h.elim

theorem ptrV_det {P : Program} {o : BinOp} {t : TypeId} {b : Bool} {K : AV → Prop} (h : ptrV P o t b K) : ∃ av, K av ∧ ptrV P o t b (· = av) := by
  obtain ⟨h1, h2⟩ := h
  cases o with
  | eql => exact ⟨_, h2, h1, rfl⟩
  | neq => exact ⟨_, h2, h1, rfl⟩
  | _ => exact h2.elim
theorem binV_det {o : BinOp} {a b : Value} {K : AV → Prop} (h : binV o a b K) : ∃ av, K av ∧ binV o a b (· = av) := by
  unfold binV at h
  split at h
  all_goals first
    | exact h.elim
    | exact ⟨_, h.2.2, h.1, h.2.1, rfl⟩
    | exact ⟨_, h.2, h.1, rfl⟩
    | exact ⟨_, h, rfl⟩

theorem sliceK_det {P : Program} {H : Nat → Option Blk} {t : TypeId} {x : AV} {lo hi mx : Option AV} {K : AV → Prop} (h : sliceK P H t x lo hi mx K) : ∃ av, K av ∧ sliceK P H t x lo hi mx (· = av) := by
  unfold sliceK at *
  split at h
  · exact h.elim
  · rename_i n hn
    obtain ⟨l, h', h1, h2, h3, h4, h5, h⟩ := h
    split at h
    · exact ⟨_, h.2.2, l, h', h1, h2, h3, h4, h5, h.1, h.2.1, rfl⟩
    · exact ⟨_, h.2, l, h', h1, h2, h3, h4, h5, h.1, rfl⟩
    · obtain ⟨d, q1, q2, q3⟩ := h
      split at q3
      · rename_i k hk
        refine ⟨_, q3.2, l, h', h1, h2, h3, h4, h5, d, q1, q2, ?_⟩
        (try rw [hk]); exact ⟨q3.1, rfl⟩
      · exact q3.elim
    · exact ⟨_, h.2, l, h', h1, h2, h3, h4, h5, h.1, rfl⟩
    · exact h.elim

theorem qev_det {P : Program} {ρ : Operand → AV} {H : Nat → Option Blk} {op : Op} {K : AV → Prop} (h : qev P ρ H op K) : ∃ av, K av ∧ qev P ρ H op (· = av) := by
  cases op
  case move x => exact ⟨_, h, rfl⟩
  case assign x => exact ⟨_, h, rfl⟩
  case pick c a b =>
    simp only [qev] at *
    split at h
    · rename_i z hz; (try rw [hz]); cases z
      · exact ⟨_, h, by simp⟩
      · exact ⟨_, h, by simp⟩
    · exact h.elim
  case load t a =>
    simp only [qev] at *
    split at h
    · rename_i c j hc; (try rw [hc]); exact loadK_det h
    · rename_i n i j hc; (try rw [hc]); (try simp only)
      split at h
      · rename_i k hk
        obtain ⟨ch, h1, h2⟩ := h
        obtain ⟨av, q1, q2⟩ := loadK_det h2
        exact ⟨av, q1, by (try rw [hk]); exact ⟨ch, h1, q2⟩⟩
      · exact h.elim
    · exact h.elim
  case fieldAddr s x f =>
    simp only [qev] at *
    split at h
    · rename_i o ft hf; (try rw [hf]); (try simp only)
      obtain ⟨h1, h⟩ := h
      split at h
      · rename_i hc; (try rw [hc]); exact ⟨_, h, h1, rfl⟩
      · rename_i hc; (try rw [hc]); exact ⟨_, h, h1, rfl⟩
      · exact h.elim
    · exact h.elim
  case indexAddr t x ix =>
    simp only [qev] at *
    split at h
    · rename_i kk i hi; (try rw [hi]); (try simp only)
      split at h
      · rename_i e hs; (try rw [hs]); (try simp only)
        split at h
        · rename_i z l hc; (try rw [hc]); (try simp only)
          obtain ⟨h1, h2, ch, h3, h4⟩ := h
          exact ⟨_, h4, h1, h2, ch, h3, rfl⟩
        · rename_i n i0 len hc; (try rw [hc]); (try simp only)
          obtain ⟨h1, h⟩ := h
          split at h
          · rename_i k hk; exact ⟨_, h.2, h1, by (try rw [hk]); exact ⟨h.1, rfl⟩⟩
          · exact h.elim
        · exact h.elim
      · rename_i m e hs ha; (try rw [hs, ha]); (try simp only)
        obtain ⟨h1, h⟩ := h
        split at h
        · rename_i hc; (try rw [hc]); exact ⟨_, h, h1, rfl⟩
        · rename_i hc; (try rw [hc]); exact ⟨_, h, h1, rfl⟩
        · exact h.elim
      · exact h.elim
    · exact h.elim
  case field t x f =>
    simp only [qev] at *
    split at h
    · rename_i o ft l hf hc; (try rw [hf, hc]); exact loadK_det h
    · exact h.elim
  case index t x ix =>
    simp only [qev] at *
    split at h
    · rename_i kk i hi; (try rw [hi]); (try simp only)
      split at h
      · rename_i l hc; (try rw [hc]); (try simp only)
        split at h
        · rename_i m e ha; (try rw [ha]); (try simp only)
          obtain ⟨av, q1, q2⟩ := loadK_det h.2
          exact ⟨av, q1, h.1, q2⟩
        · exact h.elim
      · rename_i s hc; (try rw [hc]); (try simp only)
        obtain ⟨h1, h2, b, h3, h4⟩ := h
        exact ⟨_, h4, h1, h2, b, h3, rfl⟩
      · exact h.elim
    · exact h.elim
  case extract x ix =>
    simp only [qev] at *
    split at h
    · rename_i l hc; (try rw [hc]); obtain ⟨a, h1, h2⟩ := h; exact ⟨a, h2, a, h1, rfl⟩
    · exact h.elim
  case binOp o t x y yt =>
    simp only [qev, bV] at *
    split at h
    · rename_i a b ha hb; (try rw [ha, hb])
      obtain ⟨hu, h⟩ := h
      unfold boolV at h
      split at h
      · exact ⟨_, h, hu, rfl⟩
      · exact ⟨_, h, hu, rfl⟩
      · exact h.elim
    · rename_i ha hb; (try rw [ha, hb])
      obtain ⟨r, h1, h2⟩ := ptrV_det h
      exact ⟨r, h1, h2⟩
    · rename_i a b hnb hnp ha hb; (try rw [ha, hb])
      obtain ⟨r, h1, h2⟩ := binV_det h
      refine ⟨r, h1, ?_⟩
      exact h2
    · rename_i l l' ha hb; (try rw [ha, hb])
      unfold aggV at h
      split at h
      case h_2 => exact h.elim
      rename_i xs ys h1 h2
      obtain ⟨h3, h4⟩ := h
      split at h4
      · exact ⟨_, h4, by simp only [aggV, h1, h2]; exact ⟨h3, trivial⟩⟩
      · exact ⟨_, h4, by simp only [aggV, h1, h2]; exact ⟨h3, trivial⟩⟩
      · exact h4.elim
    · rename_i ha hb; (try rw [ha, hb])
      obtain ⟨r, h1, h2⟩ := ptrV_det h.2
      exact ⟨r, h1, h.1, h2⟩
    · rename_i ha hb; (try rw [ha, hb])
      obtain ⟨r, h1, h2⟩ := ptrV_det h
      exact ⟨r, h1, h2⟩
    · exact h.elim
  case unOp o t x =>
    simp only [qev] at *
    split at h
    · rename_i hc; (try rw [hc]); exact ⟨_, h, rfl⟩
    · rename_i hc; (try rw [hc]); exact ⟨_, h, rfl⟩
    · exact h.elim
  case convert s d x =>
    simp only [qev] at *
    split at h
    · rename_i hc hk; (try rw [hc, hk]); exact ⟨_, h.2, h.1, rfl⟩
    · exact h.elim
  case makeFunc fn fst caps =>
    cases fn with
    | func f => exact ⟨_, h.2, h.1, rfl⟩
    | _ => exact h.elim
  case nilCheck x =>
    simp only [qev] at *
    split at h
    · rename_i hc; (try rw [hc]); exact ⟨_, h, rfl⟩
    · rename_i hc; (try rw [hc]); exact ⟨_, h, rfl⟩
    · rename_i hc; (try rw [hc]); exact ⟨_, h, rfl⟩
    · exact h.elim
  case slice t x lo hi mx =>
    simp only [qev] at *
    split at h
    · rename_i hp; (try rw [hp]); (try simp only)
      split at h
      · rename_i ha; (try rw [ha]); exact sliceK_det h
      · exact h.elim
    · exact h.elim
  case build t parts =>
    simp only [qev] at *
    split at h
    · rename_i z pl hz hpl; (try rw [hz, hpl]); obtain ⟨c, h1, h2⟩ := h; exact ⟨_, h2, c, h1, rfl⟩
    · exact h.elim
  case call c =>
    obtain ⟨callee, args, ats⟩ := c
    cases callee with
    | builtin b =>
      cases b
      case len =>
        simp only [qev] at *
        split at h
        · rename_i x t hx ht; (try rw [hx, ht]); (try simp only)
          split at h
          · rename_i e he; (try rw [he]); (try simp only)
            split at h
            · exact h.elim
            · rename_i hns
              obtain ⟨n, h1, h2⟩ := h
              exact ⟨_, h2, n, h1, rfl⟩
          · rename_i he; (try rw [he]); (try simp only)
            obtain ⟨h1, h⟩ := h
            split at h
            · rename_i hc; (try rw [hc]); exact ⟨_, h, h1, rfl⟩
            · exact h.elim
        · exact h.elim
      case max =>
        simp only [qev] at *
        split at h
        · rename_i hc; (try rw [hc]); exact ⟨_, h, rfl⟩
        · rename_i hc; (try rw [hc]); exact ⟨_, h, rfl⟩
        · rename_i hc; (try rw [hc]); exact ⟨_, h, rfl⟩
        · exact h.elim
      case min =>
        simp only [qev] at *
        split at h
        · rename_i hc; (try rw [hc]); exact ⟨_, h, rfl⟩
        · rename_i hc; (try rw [hc]); exact ⟨_, h, rfl⟩
        · exact h.elim
      case unsafeSliceData =>
        simp only [qev] at *
        split at h
        · rename_i hc; (try rw [hc]); exact ⟨_, h.2, h.1, rfl⟩
        · exact h.elim
      all_goals exact h.elim
    | _ => exact h.elim
  all_goals exact h.elim

theorem nev_det {P : Program} {ρ : Operand → AV} {op : Op} {n : Nat} {K : AV → Blk → Prop} (h : nev P ρ op n K) : ∃ av b, K av b ∧ nev P ρ op n (fun x y => x = av ∧ y = b) := by
  cases op
  case box t x =>
    simp only [nev] at *
    split at h
    · rename_i l hl; (try rw [hl]); exact ⟨_, _, h, rfl, rfl⟩
    · exact h.elim
  case alloc t =>
    simp only [nev] at *
    split at h
    · rename_i l hl; (try rw [hl]); exact ⟨_, _, h, rfl, rfl⟩
    · exact h.elim
  case buildSlice t len parts =>
    simp only [nev] at *
    split at h
    · rename_i e he; (try rw [he]); obtain ⟨h1, cs, h2, h3⟩ := h; exact ⟨_, _, h3, h1, cs, h2, rfl, rfl⟩
    · exact h.elim
  case makeSlice t l c =>
    simp only [nev] at *
    split at h
    · rename_i e k1 x k2 y he hx hy; (try rw [he, hx, hy]); (try simp only)
      obtain ⟨h1, h⟩ := h
      split at h
      · rename_i z hz; exact ⟨_, _, h.2, h1, by (try rw [hz]); exact ⟨h.1, rfl, rfl⟩⟩
      · exact h.elim
    · exact h.elim
  all_goals exact h.elim

theorem sliceK_more {P : Program} {H H' : Nat → Option Blk} {t : TypeId} {x : AV} {lo hi mx : Option AV} {K : AV → Prop} (hH : ∀ n b, H n = some b → H' n = some b) (h : sliceK P H t x lo hi mx K) : sliceK P H' t x lo hi mx K := by
  unfold sliceK at *
  split at h
  · exact h.elim
  · rename_i n hn
    obtain ⟨l, h', h1, h2, h3, h4, h5, h⟩ := h
    refine ⟨l, h', h1, h2, h3, h4, h5, ?_⟩
    split at h
    · exact h
    · exact h
    · obtain ⟨d, q1, q2, q3⟩ := h
      refine ⟨d, q1, q2, ?_⟩
      split at q3
      · rename_i k hk; rw [hH _ _ hk]; exact q3
      · exact q3.elim
    · exact h
    · exact h.elim

theorem qev_moreH {P : Program} {ρ : Operand → AV} {H H' : Nat → Option Blk} {op : Op} {K : AV → Prop} (hH : ∀ n b, H n = some b → H' n = some b) (h : qev P ρ H op K) : qev P ρ H' op K := by
  cases op
  case load t a =>
    simp only [qev] at *
    split at h
    · exact h
    · split at h
      · rename_i k hk; rw [hH _ _ hk]; exact h
      · exact h.elim
    · exact h.elim
  case indexAddr t x ix =>
    simp only [qev] at *
    split at h
    · split at h
      · split at h
        · exact h
        · obtain ⟨h1, h⟩ := h
          refine ⟨h1, ?_⟩
          split at h
          · rename_i k hk; rw [hH _ _ hk]; exact h
          · exact h.elim
        · exact h.elim
      · exact h
      · exact h.elim
    · exact h.elim
  case slice t x lo hi mx =>
    simp only [qev] at *
    split at h
    · split at h
      · exact sliceK_more hH h
      · exact h.elim
    · exact h.elim
  case makeFunc fn fst caps => cases fn <;> exact h
  case call c =>
    obtain ⟨callee, args, ats⟩ := c
    cases callee with
    | builtin b => cases b <;> exact h
    | _ => exact h
  all_goals exact h

theorem evs_eq {ρ ρ' : Operand → AV} {l : List Operand} (h : ∀ x ∈ l, ρ x = ρ' x) : l.map ρ = l.map ρ' := List.map_congr_left h

theorem qev_moreρ {P : Program} {ρ ρ' : Operand → AV} {H : Nat → Option Blk} {op : Op} {K : AV → Prop} (hρ : ∀ x ∈ op.operands.toList, ρ x = ρ' x) (h : qev P ρ H op K) : qev P ρ' H op K := by
  cases op
  case move x => have e := hρ x (by simp [Op.operands]); simp only [qev] at *; rw [← e]; exact h
  case assign x => have e := hρ x (by simp [Op.operands]); simp only [qev] at *; rw [← e]; exact h
  case pick c a b => have e1 := hρ c (by simp [Op.operands]); have e2 := hρ a (by simp [Op.operands]); have e3 := hρ b (by simp [Op.operands]); simp only [qev] at *; rw [← e1, ← e2, ← e3]; exact h
  case load t a => have e := hρ a (by simp [Op.operands]); simp only [qev] at *; rw [← e]; exact h
  case fieldAddr s x f => have e := hρ x (by simp [Op.operands]); simp only [qev] at *; rw [← e]; exact h
  case indexAddr t x ix => have e1 := hρ x (by simp [Op.operands]); have e2 := hρ ix (by simp [Op.operands]); simp only [qev] at *; rw [← e1, ← e2]; exact h
  case field t x f => have e := hρ x (by simp [Op.operands]); simp only [qev] at *; rw [← e]; exact h
  case index t x ix => have e1 := hρ x (by simp [Op.operands]); have e2 := hρ ix (by simp [Op.operands]); simp only [qev] at *; rw [← e1, ← e2]; exact h
  case extract x ix => have e := hρ x (by simp [Op.operands]); simp only [qev] at *; rw [← e]; exact h
  case binOp o t x y yt => have e1 := hρ x (by simp [Op.operands]); have e2 := hρ y (by simp [Op.operands]); simp only [qev] at *; rw [← e1, ← e2]; exact h
  case unOp o t x => have e := hρ x (by simp [Op.operands]); simp only [qev] at *; rw [← e]; exact h
  case convert s d x => have e := hρ x (by simp [Op.operands]); simp only [qev] at *; rw [← e]; exact h
  case makeFunc fn fst caps =>
    cases fn with
    | func f =>
      simp only [qev] at *
      obtain ⟨h1, h2⟩ := h
      refine ⟨h1, ?_⟩
      rw [← evs_eq (fun x hx => hρ x (by simp only [Op.operands, Array.toList_append, List.mem_append]; exact .inr hx))]; exact h2
    | _ => exact h.elim
  case nilCheck x => have e := hρ x (by simp [Op.operands]); simp only [qev] at *; rw [← e]; exact h
  case slice t x lo hi mx =>
    have e1 := hρ x (by simp [Op.operands])
    have e2 : lo.map ρ = lo.map ρ' := by cases lo with
      | none => rfl
      | some q => exact congrArg some (hρ q (by simp [Op.operands]))
    have e3 : hi.map ρ = hi.map ρ' := by cases hi with
      | none => rfl
      | some q => exact congrArg some (hρ q (by simp [Op.operands]))
    have e4 : mx.map ρ = mx.map ρ' := by cases mx with
      | none => rfl
      | some q => exact congrArg some (hρ q (by simp [Op.operands]))
    simp only [qev] at *; rw [← e1, ← e2, ← e3, ← e4]; exact h
  case build t parts =>
    simp only [qev] at *
    have e : (parts.toList.map fun p => (p.1, ρ p.2)) = parts.toList.map fun p => (p.1, ρ' p.2) :=
      List.map_congr_left fun p hp => by rw [hρ p.2 (by simp only [Op.operands]; exact List.mem_map_of_mem hp)]
    rw [← e]; exact h
  case call c =>
    obtain ⟨callee, args, ats⟩ := c
    cases callee with
    | builtin b =>
      have e : args.toList.map ρ = args.toList.map ρ' := evs_eq fun x hx => hρ x (by simpa [Op.operands, Call.operands] using hx)
      cases b
      case len =>
        simp only [qev] at *
        split at h
        · rename_i x t hx ht
          have e1 : ρ x = ρ' x := hρ x (by simp [Op.operands, Call.operands]; rw [← Array.mem_toList_iff, hx]; simp)
          (try simp only [hx, ht])
          rw [← e1]; exact h
        · exact h.elim
      case max => simp only [qev] at *; rw [← e]; exact h
      case min => simp only [qev] at *; rw [← e]; exact h
      case unsafeSliceData => simp only [qev] at *; rw [← e]; exact h
      all_goals exact h.elim
    | _ => exact h.elim
  all_goals exact h.elim

theorem nev_moreρ {P : Program} {ρ ρ' : Operand → AV} {op : Op} {n : Nat} {K : AV → Blk → Prop} (hρ : ∀ x ∈ op.operands.toList, ρ x = ρ' x) (h : nev P ρ op n K) : nev P ρ' op n K := by
  cases op
  case box t x => have e := hρ x (by simp [Op.operands]); simp only [nev] at *; rw [← e]; exact h
  case alloc t => exact h
  case buildSlice t len parts =>
    simp only [nev] at *
    have e : (parts.toList.map fun p => ρ p.2) = parts.toList.map fun p => ρ' p.2 :=
      List.map_congr_left fun p hp => hρ p.2 (by simp only [Op.operands]; exact List.mem_map_of_mem hp)
    rw [← e]; exact h
  case makeSlice t l c => have e1 := hρ l (by simp [Op.operands]); have e2 := hρ c (by simp [Op.operands]); simp only [nev] at *; rw [← e1, ← e2]; exact h
  all_goals exact h.elim

theorem nev_mono {P : Program} {ρ : Operand → AV} {op : Op} {n : Nat} {K K' : AV → Blk → Prop} (hK : ∀ x y, K x y → K' x y) (h : nev P ρ op n K) : nev P ρ op n K' := by
  cases op
  case box t x =>
    simp only [nev] at *
    split at h
    · exact hK _ _ h
    · exact h.elim
  case alloc t =>
    simp only [nev] at *
    split at h
    · exact hK _ _ h
    · exact h.elim
  case buildSlice t len parts =>
    simp only [nev] at *
    split at h
    · obtain ⟨h1, cs, h2, h3⟩ := h; exact ⟨h1, cs, h2, hK _ _ h3⟩
    · exact h.elim
  case makeSlice t l c =>
    simp only [nev] at *
    split at h
    · obtain ⟨h1, h⟩ := h
      refine ⟨h1, ?_⟩
      split at h
      · exact ⟨h.1, hK _ _ h.2⟩
      · exact h.elim
    · exact h.elim
  all_goals exact h.elim
end Go.Eng

set_option linter.unusedSimpArgs false
set_option linter.unusedVariables false
namespace Go.Eng
open Go Go.RowKit

def bindsA (e : Edge) : Bool := Region.binds .any e
def predsO (o : Oper) : List Nat := (o.after.toList.filter bindsA).map (·.on)
def usesT (o : Oper) : List Nat := o.op.operands.toList.filterMap fun x => match x with | .tmp t => some t | _ => none
def dstOf (ops : Array Oper) (j : Nat) : Option Nat := (ops[j]?).bind (·.dst)

/-- What the walk of the first m operations in the text's order asks of the edges; A: for each of them, those that come before it. -/
def drawOne (ops : Array Oper) (m : Nat) (A : List (List Nat × List Nat)) (i : Nat) (o : Oper) : Bool :=
  (predsO o).all (fun p => decide (p < i)) &&
  (decide (i < m) || (List.range m).all fun j => (predsO o).contains j || (A.getD i ([], [])).1.contains j) &&
  ((A.getD i ([], [])).1.all fun j => decide (j < i) && ((predsO o).contains j || (predsO o).any fun p => ((A.getD p ([], [])).1).contains j)) &&
  (decide (m ≤ i) ||
    (((List.range m).all fun j => j == i || (match dstOf ops j with
        | none => true
        | some d => (o.dst != some d) && (!(usesT o).contains d || (if j < i then (A.getD i ([], [])).1.contains j else ((A.getD j ([], [])).1).contains i)))) &&
     (match o.guard with | none => true | some (j, _) => decide (j < i) && (A.getD i ([], [])).1.contains j)))
/-- The tail comes in the text's order. -/
def tailOk (ops : Array Oper) (m : Nat) (A : List (List Nat × List Nat)) : Bool :=
  (List.range ops.size).all fun i => decide (i < m) || (match ops[i]? with | none => true | some o => (List.range i).all fun j => (predsO o).contains j || (A.getD i ([], [])).1.contains j)
def drawWk (ops : Array Oper) (m : Nat) (A : List (List Nat × List Nat)) : Bool :=
  decide (m ≤ ops.size) && ((List.range ops.size).all fun i => match ops[i]? with | none => true | some o => drawOne ops m A i o)
def drawOk (ops : Array Oper) (m : Nat) (A : List (List Nat × List Nat)) : Bool := drawWk ops m A && tailOk ops m A

/-- A slice that is made in a drawn region: it is only read; an empty one has no room. -/
def roB (b : Blk) : AV := match b.l with | [] => .ez | l => .ro b.e l

theorem srcK_mono {H : Nat → Option Blk} {z : Nat} {x : AV} {K K' : List (List AV) → Prop} (hK : ∀ l, K l → K' l) (h : srcK H z x K) : srcK H z x K' := by
  unfold srcK at *
  split at h
  · exact ⟨h.1, hK _ h.2⟩
  · exact hK _ h
  · split at h
    · exact ⟨h.1, h.2.1, hK _ h.2.2⟩
    · exact h.elim
  · exact hK _ h
  · exact ⟨h.1, hK _ h.2⟩
  · exact h.elim
theorem srcK_det {H : Nat → Option Blk} {z : Nat} {x : AV} {K : List (List AV) → Prop} (h : srcK H z x K) : ∃ l, K l ∧ srcK H z x (· = l) := by
  unfold srcK at *
  split at h
  · exact ⟨_, h.2, h.1, rfl⟩
  · exact ⟨_, h, rfl⟩
  · split at h
    · rename_i k hk; exact ⟨_, h.2.2, by (try rw [hk]); exact ⟨h.1, h.2.1, rfl⟩⟩
    · exact h.elim
  · exact ⟨_, h, rfl⟩
  · exact ⟨_, h.2, h.1, rfl⟩
  · exact h.elim
theorem run_build0 {P : Program} {w : World} {ρc : Operand → Value} {o : Oper} {t e : TypeId} (ho : o.op = .buildSlice t 0 #[]) (he : slT P t = some e) (hz : 0 < szT P e) :
    (execOp ρc o).run P w = .ok (.value (.slice (some ⟨w.heap.size, 0, none⟩) 0 0)) { w with heap := w.heap.push (.cells #[] e (0, 0)) } := by
  have hu := und_of_slT he
  obtain ⟨_, op, _, _, _, _⟩ := o
  simp only at ho; subst ho
  simp [execOp, Instr.buildSlice, run_underlying hu, run_sizeOf' hz, newRow, Instr.fill]
  congr 2
  apply Array.ext'
  rw [Array.toList_map]
  rfl
theorem apK_mono {P : Program} {ρ : Operand → AV} {H : Nat → Option Blk} {xs : List Operand} {ts : List TypeId} {K K' : List Nat → Nat → List (List AV) → Prop} (hK : ∀ a b c, K a b c → K' a b c) (h : apK P ρ H xs ts K) : apK P ρ H xs ts K' := by
  unfold apK at *
  split at h
  case h_2 => exact h.elim
  split at h
  case h_2 => exact h.elim
  obtain ⟨h1, h2, h⟩ := h
  refine ⟨h1, h2, ?_⟩
  have src : ∀ {z : Nat} {x : AV} {ns : List Nat} {d : List (List AV)}, srcK H z x (fun n => d.length + n.length ≤ 274877906944 ∧ (∀ c ∈ n, ∀ s ∈ c, oneA s = true) ∧ K ns z (d ++ n)) → srcK H z x (fun n => d.length + n.length ≤ 274877906944 ∧ (∀ c ∈ n, ∀ s ∈ c, oneA s = true) ∧ K' ns z (d ++ n)) :=
    fun hs => srcK_mono (fun n hn => ⟨hn.1, hn.2.1, hK _ _ _ hn.2.2⟩) hs
  unfold dstK at *
  split at h
  · split at h
    · exact ⟨h.1, h.2.1, src h.2.2⟩
    · exact h.elim
  · exact src h
  · exact src h
  · exact h.elim

theorem apK_det {P : Program} {ρ : Operand → AV} {H : Nat → Option Blk} {xs : List Operand} {ts : List TypeId} {K : List Nat → Nat → List (List AV) → Prop} (h : apK P ρ H xs ts K) :
    ∃ ns z l, K ns z l ∧ apK P ρ H xs ts (fun a b c => a = ns ∧ b = z ∧ c = l) := by
  unfold apK at h
  split at h
  case h_2 => exact h.elim
  split at h
  case h_2 => exact h.elim
  rename_i x1 x2 t1 t2 _ _ e he hi
  obtain ⟨h1, h2, h⟩ := h
  have src : ∀ {ns : List Nat} {d : List (List AV)}, srcK H (szT P e) (ρ x2) (fun n => d.length + n.length ≤ 274877906944 ∧ (∀ c ∈ n, ∀ s ∈ c, oneA s = true) ∧ K ns (szT P e) (d ++ n)) →
      ∃ l, K ns (szT P e) l ∧ srcK H (szT P e) (ρ x2) (fun n => d.length + n.length ≤ 274877906944 ∧ (∀ c ∈ n, ∀ s ∈ c, oneA s = true) ∧ (ns = ns ∧ szT P e = szT P e ∧ d ++ n = l)) := by
    intro ns d hs
    obtain ⟨n0, q1, q2⟩ := srcK_det hs
    exact ⟨_, q1.2.2, srcK_mono (fun n hn => by subst hn; exact ⟨q1.1, q1.2.1, rfl, rfl, rfl⟩) q2⟩
  unfold dstK at h
  split at h
  · rename_i hc
    split at h
    · rename_i k hk
      obtain ⟨l, q1, q2⟩ := src h.2.2
      refine ⟨_, _, l, q1, ?_⟩
      unfold apK; dsimp only; rw [he, hi]; refine ⟨h1, h2, ?_⟩
      unfold dstK; rw [hc]; dsimp only; rw [hk]; exact ⟨h.1, h.2.1, q2⟩
    · exact h.elim
  · rename_i hc
    obtain ⟨l, q1, q2⟩ := src h
    refine ⟨_, _, l, q1, ?_⟩
    unfold apK; dsimp only; rw [he, hi]; refine ⟨h1, h2, ?_⟩
    unfold dstK; rw [hc]; exact q2
  · rename_i hc
    obtain ⟨l, q1, q2⟩ := src h
    refine ⟨_, _, l, q1, ?_⟩
    unfold apK; dsimp only; rw [he, hi]; refine ⟨h1, h2, ?_⟩
    unfold dstK; rw [hc]; exact q2
  · exact h.elim

theorem srcK_moreH {H H' : Nat → Option Blk} {z : Nat} {x : AV} {K : List (List AV) → Prop} (hH : ∀ n b, H n = some b → H' n = some b) (h : srcK H z x K) : srcK H' z x K := by
  unfold srcK at *
  split at h
  · exact h
  · exact h
  · split at h
    · rename_i k hk; rw [hH _ _ hk]; exact h
    · exact h.elim
  · exact h
  · exact h
  · exact h.elim
theorem apK_more {P : Program} {ρ ρ' : Operand → AV} {H H' : Nat → Option Blk} {xs : List Operand} {ts : List TypeId} {K : List Nat → Nat → List (List AV) → Prop} (hρ : ∀ x ∈ xs, ρ x = ρ' x) (hH : ∀ n b, H n = some b → H' n = some b)
    (h : apK P ρ H xs ts K) : apK P ρ' H' xs ts K := by
  unfold apK at *
  split at h
  case h_2 => exact h.elim
  split at h
  case h_2 => exact h.elim
  obtain ⟨h1, h2, h⟩ := h
  refine ⟨h1, h2, ?_⟩
  rw [← hρ _ List.mem_cons_self, ← hρ _ (List.mem_cons_of_mem _ List.mem_cons_self)]
  unfold dstK at *
  split at h
  · split at h
    · rename_i k hk; rw [hH _ _ hk]; exact ⟨h.1, h.2.1, srcK_moreH hH h.2.2⟩
    · exact h.elim
  · exact srcK_moreH hH h
  · exact srcK_moreH hH h
  · exact h.elim

/-- A function's answer that is memory of its own: a slice over these chunks. -/
def NFun (P : Program) (f : FuncId) (args : List AV) (z : Nat) (l : List (List AV)) : Prop :=
  (∃ fn, P.funcs[f]? = some fn ∧ (fn.name == "runtime.NumGoroutine") = false ∧ fn.body.isSome = true) ∧ (∀ c ∈ l, ∀ s ∈ c, Cl s) ∧
  ∀ (X : Nat → Prop) (w : World) (vs : Array Value), (∀ b, X b → b < w.heap.size) → args.length = vs.size →
    (∀ (k : Nat) (s : AV) (u : Value), args[k]? = some s → vs[k]? = some u → RS X B0 w s u) →
    Calls P f vs w fun e w' => ∃ v r, e = .returned v ∧ Ext w w' ∧ (∀ b o e, r = some (b, o, e) → w.heap.size ≤ b) ∧
      OwnR (fun b => X b ∨ ∃ o e, r = some (b, o, e)) (fun q => if q = 0 then r else none) w' 0 ⟨z, l⟩ ∧ RS (fun b => X b ∨ ∃ o e, r = some (b, o, e)) (fun q => if q = 0 then r else none) w' (.sl 0 0 l.length) v

def qopK (P : Program) (ρ : Operand → AV) (H : Nat → Option Blk) (o : Oper) (n : Nat) (K : AV → Option Blk → Prop) : Prop :=
  match o.op with
  | .box _ _ | .alloc _ | .makeSlice _ _ _ => nev P ρ o.op n fun av b => K av (some b)
  | .buildSlice _ _ _ => nev P ρ o.op n fun _ b => K (roB b) none
  | .call ⟨.builtin .append, xs, ts⟩ => apK P ρ H xs.toList ts.toList fun ns z l => ns = [] ∧ K (.sl n 0 l.length) (some ⟨z, l⟩)
  | .call ⟨.value f, xs, _⟩ => (match ρ f with | .fn fi caps => (∃ R, ((∀ a ∈ xs.toList.map ρ ++ caps, Cl a) ∧ PFun P fi (xs.toList.map ρ ++ caps) R) ∧ K R none) ∨ (∃ z l, ((∀ a ∈ xs.toList.map ρ ++ caps, Cl a) ∧ NFun P fi (xs.toList.map ρ ++ caps) z l) ∧ K (.sl n 0 l.length) (some ⟨z, l⟩)) | _ => False)
  | _ => qev P ρ H o.op fun av => K av none

def addB (s : AState) (n : Nat) : Option Blk → AState
  | none => s
  | some b => { s with h := (n, b) :: s.h }

def maskH (s0 s : AState) (A : List (List Nat × List Nat)) (i : Nat) : Nat → Option Blk :=
  fun k => if (A.getD i ([], [])).2.contains k then none else if k < s0.k then find s0.h k else if (A.getD i ([], [])).1.contains (k - s0.k) then find s.h k else none

def vcQ (P : Program) (A : List (List Nat × List Nat)) (all : Array Oper) (s0 : AState) (F : AState → Prop) : List Oper → Nat → AState → Prop
  | [], _, s => F s
  | o :: r, i, s =>
    match o.guard with
    | none => qopK P (evA s.t) (maskH s0 s A i) o (s0.k + i) fun av nb => vcQ P A all s0 F r (i + 1) (putA (addB s (s0.k + i) nb) o.dst av)
    | some _ => (match guardA all s.t o with
      | some (b, want) => (b = want → qopK P (evA s.t) (maskH s0 s A i) o (s0.k + i) fun av nb => vcQ P A all s0 F r (i + 1) (putA (addB s (s0.k + i) nb) o.dst av)) ∧
          (b ≠ want → vcQ P A all s0 F r (i + 1) (putA s o.dst un))
      | none => False)

section
variable {P : Program} {ρ ρ' : Operand → AV} {H H' : Nat → Option Blk} {o : Oper} {n : Nat} {K : AV → Option Blk → Prop}
theorem qopK_det (h : qopK P ρ H o n K) : ∃ av nb, K av nb ∧ qopK P ρ H o n (fun x y => x = av ∧ y = nb) := by
  unfold qopK at h
  unfold qopK
  split at h
  · obtain ⟨av, b, h1, h2⟩ := nev_det h
    refine ⟨av, some b, h1, ?_⟩
    simp only [Option.some.injEq]; exact h2
  · obtain ⟨av, b, h1, h2⟩ := nev_det h
    refine ⟨av, some b, h1, ?_⟩
    simp only [Option.some.injEq]; exact h2
  · obtain ⟨av, b, h1, h2⟩ := nev_det h
    refine ⟨av, some b, h1, ?_⟩
    simp only [Option.some.injEq]; exact h2
  · obtain ⟨av, b, h1, h2⟩ := nev_det h
    refine ⟨_, none, h1, ?_⟩
    exact nev_mono (fun x y hxy => by obtain ⟨_, rfl⟩ := hxy; exact ⟨rfl, rfl⟩) h2
  · obtain ⟨ns, z, l, ⟨rfl, h1⟩, h2⟩ := apK_det h
    refine ⟨_, _, h1, ?_⟩
    exact apK_mono (fun a b c ⟨e1, e2, e3⟩ => by subst e1; subst e2; subst e3; exact ⟨rfl, rfl, rfl⟩) h2
  · split at h
    · rcases h with ⟨R, h1, h2⟩ | ⟨z, l, h1, h2⟩
      · exact ⟨R, none, h2, .inl ⟨R, h1, rfl, rfl⟩⟩
      · exact ⟨_, _, h2, .inr ⟨z, l, h1, rfl, rfl⟩⟩
    · exact h.elim
  · obtain ⟨av, h1, h2⟩ := qev_det h
    refine ⟨av, none, h1, ?_⟩
    simp only [and_true]; exact h2

theorem qopK_more (hρ : ∀ x ∈ o.op.operands.toList, ρ x = ρ' x) (hH : ∀ n b, H n = some b → H' n = some b) (h : qopK P ρ H o n K) : qopK P ρ' H' o n K := by
  obtain ⟨dst, op, ty, pos, af, g⟩ := o
  cases op
  case box t x => simp only [qopK] at h ⊢; exact nev_moreρ hρ h
  case alloc t => simp only [qopK] at h ⊢; exact nev_moreρ hρ h
  case makeSlice t l c => simp only [qopK] at h ⊢; exact nev_moreρ hρ h
  case buildSlice t len parts => simp only [qopK] at h ⊢; exact nev_moreρ hρ h
  case call c =>
    obtain ⟨callee, xs, ts⟩ := c
    cases callee with
    | value f =>
      simp only [qopK] at *
      have e1 : ρ f = ρ' f := hρ f (by simp [Op.operands, Call.operands])
      have e2 : xs.toList.map ρ = xs.toList.map ρ' := evs_eq fun x hx => hρ x (by simp only [Op.operands, Call.operands]; rw [Array.toList_append]; exact List.mem_append_right _ hx)
      rw [← e1, ← e2]; exact h
    | builtin b =>
      cases b
      case append =>
        simp only [qopK] at h ⊢
        exact apK_more (fun x hx => hρ x (by simp only [Op.operands, Call.operands]; rw [Array.toList_append]; exact List.mem_append_right _ hx)) hH h
      all_goals (simp only [qopK] at h ⊢; exact qev_moreH hH (qev_moreρ hρ h))
    | invoke r m => simp only [qopK] at h ⊢; exact h.elim
  all_goals (simp only [qopK] at h ⊢; exact qev_moreH hH (qev_moreρ hρ h))
end

section
variable {C : Ctx} {s : AState} {β : Bt} {a : Act} {w : World}

theorem StR.pushAt (h : StR C s β a w) {n : Nat} (hfresh : β n = none) (hne : ∀ p ∈ s.h, p.1 ≠ n) (hlt : n < s.k) {k : Blk} {c : Array Value} {t : TypeId} (hc : NewR (XOf C.F β s.h) β w k c) :
    StR C { s with h := (n, k) :: s.h } (updB β n (w.heap.size, 0, k.e)) a { w with heap := w.heap.push (.cells c t (0, 0)) } := by
  have hup : ∀ p ∈ s.h, updB β n (w.heap.size, 0, k.e) p.1 = β p.1 := fun p hp => by simp [updB, hne p hp]
  have hFlt : ∀ b, C.F b → b < w.heap.size := fun b hb => Nat.lt_of_lt_of_le (h.Flt b hb) h.fr.size
  have m : Mono (XOf C.F β s.h) β w (XOf C.F (updB β n (w.heap.size, 0, k.e)) ((n, k) :: s.h)) (updB β n (w.heap.size, 0, k.e)) { w with heap := w.heap.push (.cells c t (0, 0)) } := by
    refine ⟨fun b hb hn => ?_, fun q r hr => ?_, by simp, fun b hb _ => (Ext.push w _).block b hb, fun _ _ _ hs => (Ext.push w _).shape hs⟩
    · rcases hb with hb | ⟨p, hp, o, e, hb⟩
      · exact absurd (.inl hb) hn
      · simp only [List.mem_cons] at hp
        rcases hp with rfl | hp
        · simp [updB] at hb; omega
        · rw [hup p hp] at hb; exact absurd (.inr ⟨p, hp, o, e, hb⟩) hn
    · unfold updB; split
      · rename_i hn; subst hn; rw [hfresh] at hr; cases hr
      · exact hr
  refine ⟨h.defers.keep fun D _ hD _ _ => (Ext.push w _).block D (lt_of_get hD), h.size, fun i => (h.tm i).mono m, fun p hp => ?_, fun p hp => ?_, fun q r hr => ?_, ?_, ?_, ?_, h.fr.ext (Ext.push w _), h.Flt, h.sv.mono m, h.yy⟩
  · simp only [List.mem_cons] at hp
    rcases hp with rfl | hp
    · refine .inl ⟨w.heap.size, 0, c, t, by simp [updB], by simp, hc.1, by simpa using hc.2.1, fun i j ch s hi hj => ?_⟩
      obtain ⟨u, hu, hr⟩ := hc.2.2 i j ch s hi hj
      exact ⟨u, by simpa using hu, hr.mono m⟩
    · refine (h.own p hp).mono m (fun b o e hb => (Ext.push w _).block b (h.lt_size hp hb)) (fun hn => by rw [hup p hp]; exact hn)
  · simp only [List.mem_cons] at hp
    rcases hp with rfl | hp
    · exact hlt
    · exact h.lt p hp
  · unfold updB at hr
    split at hr
    · rename_i hn; subst hn; exact hlt
    · exact h.βlt _ _ hr
  · simp only [List.map_cons, List.nodup_cons]
    refine ⟨fun hm => ?_, h.nd⟩
    obtain ⟨p, hp, he⟩ := List.mem_map.1 hm
    exact hne p hp he
  · intro p hp q hq b o e o' e' h1 h2
    simp only [List.mem_cons] at hp hq
    rcases hp with rfl | hp <;> rcases hq with rfl | hq
    · rfl
    · rw [hup q hq] at h2
      have := h.lt_size hq h2
      simp [updB] at h1; omega
    · rw [hup p hp] at h1
      have := h.lt_size hp h1
      simp [updB] at h2; omega
    · rw [hup p hp] at h1; rw [hup q hq] at h2
      exact h.inj p hp q hq b o e o' e' h1 h2
  · intro p hp b o e hb
    simp only [List.mem_cons] at hp
    rcases hp with rfl | hp
    · simp [updB] at hb
      obtain ⟨rfl, _⟩ := hb
      exact ⟨.inl h.fr.size, fun hF => by have := hFlt _ hF; omega⟩
    · rw [hup p hp] at hb; exact h.mine p hp b o e hb

theorem StR.nfunAt (h : StR C s β a w) {n : Nat} (hfresh : β n = none) (hne : ∀ p ∈ s.h, p.1 ≠ n) (hlt : n < s.k) {z : Nat} {l : List (List AV)} {r : Option (Nat × Nat × Nat)} {w' : World} {v : Value} (hext : Ext w w') (hr : ∀ b o e, r = some (b, o, e) → w.heap.size ≤ b)
    (hcl : ∀ c ∈ l, ∀ s ∈ c, Cl s) (hown : OwnR (fun b => XOf C.F β s.h b ∨ ∃ o e, r = some (b, o, e)) (fun q => if q = 0 then r else none) w' 0 ⟨z, l⟩) (hv : RS (fun b => XOf C.F β s.h b ∨ ∃ o e, r = some (b, o, e)) (fun q => if q = 0 then r else none) w' (.sl 0 0 l.length) v) :
    StR C { s with h := (n, ⟨z, l⟩) :: s.h } (fun q => if q = n then r else β q) a w' ∧ RS (XOf C.F (fun q => if q = n then r else β q) ((n, ⟨z, l⟩) :: s.h)) (fun q => if q = n then r else β q) w' (.sl n 0 l.length) v := by
  have hup : ∀ p ∈ s.h, (fun q => if q = n then r else β q) p.1 = β p.1 := fun p hp => by simp [hne p hp]
  have hup2 : ∀ p ∈ s.h, (if p.1 = n then r else β p.1) = β p.1 := fun p hp => if_neg (hne p hp)
  have hn1 : (fun q => if q = n then r else β q) n = r := by simp
  have hFlt : ∀ b, C.F b → b < w.heap.size := fun b hb => Nat.lt_of_lt_of_le (h.Flt b hb) h.fr.size
  have hX : ∀ b, XOf C.F (fun q => if q = n then r else β q) ((n, ⟨z, l⟩) :: s.h) b → XOf C.F β s.h b ∨ ∃ o e, r = some (b, o, e) := by
    rintro b (hb | ⟨p, hp, o, e, hb⟩)
    · exact .inl (.inl hb)
    · simp only [List.mem_cons] at hp
      rcases hp with rfl | hp
      · exact .inr ⟨o, e, by simpa using hb⟩
      · rw [hup p hp] at hb; exact .inl (.inr ⟨p, hp, o, e, hb⟩)
  have m : Mono (XOf C.F β s.h) β w (XOf C.F (fun q => if q = n then r else β q) ((n, ⟨z, l⟩) :: s.h)) (fun q => if q = n then r else β q) w' := by
    refine ⟨fun b hb hn => ?_, fun q r' hr' => ?_, hext.size, fun b hb _ => hext.block b hb, fun _ _ _ hs => hext.shape hs⟩
    · rcases hX b hb with hb | ⟨o, e, hb⟩
      · exact absurd hb hn
      · exact hr b o e hb
    · by_cases hq : q = n
      · subst hq; rw [hfresh] at hr'; cases hr'
      · simpa [hq] using hr'
  refine ⟨⟨h.defers.keep fun D _ hD _ _ => hext.block D (lt_of_get hD), h.size, fun i => (h.tm i).mono m, fun p hp => ?_, fun p hp => ?_, fun q r' hr' => ?_, ?_, ?_, ?_, h.fr.ext hext, h.Flt, h.sv.mono m, h.yy⟩, ?_⟩
  · simp only [List.mem_cons] at hp
    rcases hp with rfl | hp
    · rcases hown with ⟨b, o, c, t, h1, h2, h3, h4, h5⟩ | ⟨h1, h2⟩
      · refine .inl ⟨b, o, c, t, by simpa using h1, h2, h3, h4, fun i j ch s' hi hj => ?_⟩
        obtain ⟨u, hu, hru⟩ := h5 i j ch s' hi hj
        exact ⟨u, hu, (hru.anti hX).closed (hcl ch (List.mem_of_getElem? hi) s' (List.mem_of_getElem? hj)) _⟩
      · exact .inr ⟨h1, by simpa using h2⟩
    · refine (h.own p hp).mono m (fun b o e hb => hext.block b (h.lt_size hp hb)) (fun hn => by rw [hup2 p hp]; exact hn)
  · simp only [List.mem_cons] at hp
    rcases hp with rfl | hp
    · exact hlt
    · exact h.lt p hp
  · by_cases hq : q = n
    · subst hq; exact hlt
    · exact h.βlt _ _ (by simpa [hq] using hr')
  · simp only [List.map_cons, List.nodup_cons]
    refine ⟨fun hm => ?_, h.nd⟩
    obtain ⟨p, hp, he⟩ := List.mem_map.1 hm
    exact hne p hp he
  · intro p hp q hq b o e o' e' h1 h2
    simp only [List.mem_cons] at hp hq
    rcases hp with hp | hp <;> rcases hq with hq | hq
    · rw [hp, hq]
    · subst hp
      rw [hup2 q hq] at h2
      have := h.lt_size hq h2
      have := hr b o e (by simpa using h1); omega
    · subst hq
      rw [hup2 p hp] at h1
      have := h.lt_size hp h1
      have := hr b o' e' (by simpa using h2); omega
    · rw [hup2 p hp] at h1; rw [hup2 q hq] at h2
      exact h.inj p hp q hq b o e o' e' h1 h2
  · intro p hp b o e hb
    simp only [List.mem_cons] at hp
    rcases hp with rfl | hp
    · have := hr b o e (by simpa using hb)
      exact ⟨.inl (Nat.le_trans h.fr.size this), fun hF => by have := hFlt _ hF; omega⟩
    · rw [hup2 p hp] at hb; exact h.mine p hp b o e hb
  · generalize l.length = ll at hv ⊢
    cases hv with
    | sl hb hl hs hc => exact .sl (by simpa using hb) hl hs hc
    | slz => exact .slz

theorem StR.addNilAt (h : StR C s β a w) {n : Nat} (hnone : β n = none) (hne : ∀ p ∈ s.h, p.1 ≠ n) (hlt : n < s.k) (z : Nat) : StR C { s with h := (n, ⟨z, []⟩) :: s.h } β a w := by
  have hX : ∀ b, XOf C.F β ((n, ⟨z, []⟩) :: s.h) b → XOf C.F β s.h b := by
    rintro b (hb | ⟨p, hp, o, e, hb⟩)
    · exact .inl hb
    · simp only [List.mem_cons] at hp
      rcases hp with rfl | hp
      · rw [hnone] at hb; cases hb
      · exact .inr ⟨p, hp, o, e, hb⟩
  have m : Mono (XOf C.F β s.h) β w (XOf C.F β ((n, ⟨z, []⟩) :: s.h)) β w := ⟨fun b h1 h2 => absurd (hX b h1) h2, fun _ _ h => h, Nat.le_refl _, fun _ _ _ => rfl, fun _ _ _ h => h⟩
  refine ⟨h.defers, h.size, fun i => (h.tm i).mono m, fun p hp => ?_, fun p hp => ?_, h.βlt, ?_, ?_, ?_, h.fr, h.Flt, h.sv.mono m, h.yy⟩
  · simp only [List.mem_cons] at hp
    rcases hp with rfl | hp
    · exact .inr ⟨rfl, hnone⟩
    · exact (h.own p hp).mono m (fun _ _ _ _ => rfl) (fun h => h)
  · simp only [List.mem_cons] at hp
    rcases hp with rfl | hp
    · exact hlt
    · exact h.lt p hp
  · simp only [List.map_cons, List.nodup_cons]
    refine ⟨fun hm => ?_, h.nd⟩
    obtain ⟨p, hp, he⟩ := List.mem_map.1 hm
    exact hne p hp he
  · intro p hp q hq b o e o' e' h1 h2
    simp only [List.mem_cons] at hp hq
    rcases hp with rfl | hp
    · rw [hnone] at h1; cases h1
    · rcases hq with rfl | hq
      · rw [hnone] at h2; cases h2
      · exact h.inj p hp q hq b o e o' e' h1 h2
  · intro p hp b o e hb
    simp only [List.mem_cons] at hp
    rcases hp with rfl | hp
    · rw [hnone] at hb; cases hb
    · exact h.mine p hp b o e hb

/-- Appending to what is empty and has no room makes a slice. -/
theorem apQ_sound (h : StR C s β a w) {n : Nat} (hfresh : β n = none) (hne : ∀ p ∈ s.h, p.1 ≠ n) (hlt : n < s.k) {o : Oper} {xs : Array Operand} {ts : Array TypeId} (ho : o.op = .call ⟨.builtin .append, xs, ts⟩) {K : Nat → List (List AV) → Prop}
    (hs : apK C.P (evA s.t) (find s.h) xs.toList ts.toList fun ns z l => ns = [] ∧ K z l) :
    ∃ z l u w' β', K z l ∧ (execOp a.eval o).run C.P w = .ok (.value u) w' ∧ StR C { s with h := (n, ⟨z, l⟩) :: s.h } β' a w' ∧ (∀ q, q ≠ n → β' q = β q) ∧
      RS (XOf C.F β' ((n, ⟨z, l⟩) :: s.h)) β' w' (.sl n 0 l.length) u := by
  unfold apK at hs
  split at hs
  case h_2 => exact hs.elim
  rename_i x1 x2 t1 t2 hxs hts
  obtain rfl : xs = #[x1, x2] := by apply Array.ext'; simp [hxs]
  obtain rfl : ts = #[t1, t2] := by apply Array.ext'; simp [hts]
  split at hs
  case h_2 => exact hs.elim
  rename_i e he hni
  obtain ⟨⟨hz, hby, hze⟩, hd2, hs⟩ := hs
  obtain ⟨zl, hzl, hzs⟩ : ∃ zl, zeT C.P e = some zl ∧ zl.length = szT C.P e := by
    cases hq : zeT C.P e with
    | none => simp [hq] at hze
    | some zl => simp [hq] at hze; exact ⟨zl, rfl, hze⟩
  obtain ⟨d2, hd2⟩ := Option.isSome_iff_exists.mp hd2
  have hu := und_of_slT he
  have hv1 := h.read x1
  have hv2 := h.read x2
  have hrun : ∀ u w', (Builtin.append_ #[t1, t2] o.type #[a.eval x1, a.eval x2]).run C.P w = .ok u w' → (execOp a.eval o).run C.P w = .ok (.value u) w' := by
    intro u w' hr
    obtain ⟨_, op, _, _, _, _⟩ := o
    simp only at ho; subst ho
    simp [execOp, resolve, invoke, builtin, hr]
  have main : ∀ ad, a.eval x1 = .slice ad 0 0 → srcK (find s.h) (szT C.P e) (evA s.t x2) (fun l => ([] : List (List AV)).length + l.length ≤ 274877906944 ∧ (∀ c ∈ l, ∀ s ∈ c, oneA s = true) ∧ ([] : List Nat) = [] ∧ K (szT C.P e) ([] ++ l)) →
      ∃ z l u w' β', K z l ∧ (execOp a.eval o).run C.P w = .ok (.value u) w' ∧ StR C { s with h := (n, ⟨z, l⟩) :: s.h } β' a w' ∧ (∀ q, q ≠ n → β' q = β q) ∧
      RS (XOf C.F β' ((n, ⟨z, l⟩) :: s.h)) β' w' (.sl n 0 l.length) u := by
    intro ad hva hs
    obtain ⟨l, cs, ⟨hbig, hone, _, hK⟩, hlen, hfc, hrow⟩ := srcK_sound h hv2 hs
    rw [List.nil_append] at hK
    rw [hva] at hrun
    by_cases hl0 : l.length = 0
    · have hl0' : l = [] := List.eq_nil_of_length_eq_zero hl0
      subst hl0'
      have hcs : cs = #[] := by have := hrow.2.1; simp at this; exact this
      subst hcs
      have hr := run_append_in (P := C.P) (w := w) (ty := o.type) hu hd2 hni hz (base := ad) (len := 0) (cap := 0) hlen (by simp) (hfc w rfl) (w' := w) (by cases ad <;> simp [storeCells])
      exact ⟨_, _, _, w, β, hK, hrun _ _ hr, h.addNilAt hfresh hne hlt _, fun _ _ => rfl, .slz⟩
    · obtain ⟨nc, rest, w1, q1, q2, q3, q4, q5, q6, q7⟩ := run_append_out (P := C.P) (w := w) (ty := o.type) hu hd2 hni hz hby hzl hzs (base := ad) (len := 0) (cap := 0) (old := #[]) hlen (by omega) (by simp at hbig; omega)
        (fun w' _ => by cases ad <;> simp [Builtin.firstCells, loadCells, loadCellsFrom]) hfc
      simp only [Array.empty_append, Nat.zero_add] at q6 q1 q2 q7
      have hd := h.pushAt (n := n) hfresh hne hlt (k := ⟨szT C.P e, l⟩) (c := cs ++ rest) (t := e) hrow.newR
      refine ⟨_, _, _, w1, _, hK, hrun _ _ q7, hd.same (w' := w1) q3 q4 q5 q6, fun q hq => by simp [updB, hq], ?_⟩
      have := RS.sl (X := XOf C.F (updB β n (w.heap.size, 0, szT C.P e)) ((n, ⟨szT C.P e, l⟩) :: s.h)) (β := updB β n (w.heap.size, 0, szT C.P e)) (w := w1) (n := n) (i := 0) (len := l.length) (cap := nc) (b := w.heap.size) (o := 0) (e := szT C.P e) (m := (cs ++ rest).size) (t := e)
        (by simp [updB]) q1 (by simp [World.shape?, q6]) (by
          simp [hrow.2.1, q2, ← Nat.add_mul]
          exact Nat.mul_le_mul_right _ (by omega))
      simpa using this
  unfold dstK at hs
  split at hs
  · rename_i hx1
    split at hs
    case h_2 => exact hs.elim
    rename_i k hk
    obtain ⟨_, _, hs⟩ := hs
    obtain ⟨l, cs, ⟨_, _, hf, _⟩, _⟩ := srcK_sound h hv2 hs
    cases hf
  · rename_i hx1
    rw [hx1] at hv1
    generalize hv : a.eval x1 = va at hv1
    cases hv1
    exact main none hv hs
  · rename_i hx1
    rw [hx1] at hv1
    generalize hv : a.eval x1 = va at hv1
    cases hv1
    exact main _ hv hs
  · exact hs.elim

/-- One operation of the walk, on the machine. -/
theorem qop_step (h : StR C s β a w) {H : Nat → Option Blk} {o : Oper} {n : Nat} {av : AV} {nb : Option Blk} (hH : ∀ k b, H k = some b → find s.h k = some b)
    (hfresh : β n = none) (hne : ∀ p ∈ s.h, p.1 ≠ n) (hlt : n < s.k) (hq : qopK C.P (evA s.t) H o n (fun x y => x = av ∧ y = nb)) {next : Act → World → Prop} {E : Exit → Act → World → Prop}
    (hnext : ∀ a' w' β', StR C (putA (addB s n nb) o.dst av) β' a' w' → (∀ q, q ≠ n → β' q = β q) → next a' w') {ro : Option Nat} : o.wpIn (wd ro) 0 C.P a w next E := by
  have hd : ∀ c, o.op ≠ .defer c := by
    intro c hc
    unfold qopK at hq
    rw [hc] at hq
    exact hq
  refine ⟨fun _ _ => trivial, ?_⟩
  rw [Oper.semAt_eq _ _ _ hd]
  have newb : nev C.P (evA s.t) o.op n (fun x y => x = av ∧ some y = nb) → Oper.uponIn (wd ro) 0 C.P o a next E ((execOp a.eval o).run C.P w) := by
    intro hq
    obtain ⟨av', b, u, c, t, hK, hr, hN, hV⟩ := nev_sound (P := C.P) (fun x => h.read x) hq
    obtain ⟨rfl, rfl⟩ := hK
    rw [hr]
    have h' := h.pushAt (t := t) hfresh hne hlt hN
    refine hnext _ _ _ (h'.put (hV _ _ _ (by simp [updB]) (by simp [World.shape?])) o.dst) fun q hq => by simp [updB, hq]
  unfold qopK at hq
  split at hq
  · exact newb (nev_mono (fun _ _ h => h) hq)
  · exact newb (nev_mono (fun _ _ h => h) hq)
  · exact newb (nev_mono (fun _ _ h => h) hq)
  · rename_i t len parts ho
    -- a slice that is made is read only
    rw [ho] at hq
    simp only [nev] at hq
    split at hq
    case h_2 => exact hq.elim
    rename_i e he
    obtain ⟨h1, cs, h2, rfl, rfl⟩ := hq
    have hcl := chunksA_len _ _ h2
    have hlen : cs.length = len := by
      rw [hcl.1]
      have := congrArg List.length h1.2.2.2
      simpa using this
    have hq' : nev C.P (evA s.t) o.op n (fun x y => x = .sl n 0 len ∧ y = ⟨szT C.P e, cs⟩) := by
      rw [ho]; simp only [nev]; rw [he]; refine ⟨h1, cs, h2, ?_⟩; simp
    by_cases hc0 : cs = []
    · subst hc0
      have hl0 : len = 0 := by simpa using hlen.symm
      subst hl0
      have hp0 : parts = #[] := by
        have := h1.2.2.2
        simp at this
        exact this
      subst hp0
      rw [run_build0 ho he h1.1]
      have hx := h.ext (Ext.push w (.cells #[] e (0, 0)))
      exact hnext _ _ _ (hx.put .ez o.dst) fun q hq => rfl
    obtain ⟨av', b, u, c, t', hK, hr, hN, hV⟩ := nev_sound (P := C.P) (fun x => h.read x) hq'
    obtain ⟨rfl, rfl⟩ := hK
    rw [hr]
    have he := h.ext (Ext.push w (.cells c t' (0, 0)))
    refine hnext _ _ _ (he.put ?_ o.dst) fun q hq => rfl
    have hnl : ¬ XOf C.F β s.h w.heap.size := by
      rintro (hb | ⟨p, hp, o', e, hb⟩)
      · have := h.Flt _ hb; have := h.fr.size; omega
      · have := h.lt_size hp hb; omega
    have hu := hV (XOf C.F β s.h) (updB B0 n (w.heap.size, 0, szT C.P e)) { w with heap := w.heap.push (.cells c t' (0, 0)) } (by simp [updB]) (by simp [World.shape?])
    obtain ⟨n1, n2, n3⟩ := hN
    simp only at n1 n2 n3
    cases hu with
    | slz =>
      exact absurd (List.eq_nil_of_length_eq_zero hlen) hc0
    | sl hb hl hs hc =>
      simp [updB] at hb
      obtain ⟨rfl, rfl, rfl⟩ := hb
      rw [← hlen] at hl ⊢
      have hgo := RS.ro (X := XOf C.F β s.h) (β := β) (w := { w with heap := w.heap.push (.cells c t' (0, 0)) }) (e := szT C.P e) (l := cs) (b := w.heap.size) (o := 0) (fun k => c.getD k undef) hnl ⟨c, t', (0, 0), by simp⟩ hl n1
        (fun k hk => by
          have hlt : k < c.size := by omega
          simp [World.cell?, hlt])
        (fun i j ch s' hi hj => by
          obtain ⟨v, hv, hr⟩ := n3 i j ch s' hi hj
          have : c.getD (i * szT C.P e + j) undef = v := by
            have hlt := (Array.getElem?_eq_some_iff.1 hv).1
            simpa [Array.getD, hlt] using (Array.getElem?_eq_some_iff.1 hv).2
          rw [this]
          exact hr.mono ((Ext.push w _).mono _ _))
      have hro : roB ⟨szT C.P e, cs⟩ = .ro (szT C.P e) cs := by
        cases hcs : cs with
        | nil => exact absurd hcs hc0
        | cons x r => rfl
      rw [hro]
      simpa using hgo
  · rename_i xs ats ho
    obtain ⟨z, l, u, w', β', ⟨rfl, rfl⟩, hr, hst, hβ', hR⟩ := apQ_sound h hfresh hne hlt ho (K := fun z l => .sl n 0 l.length = av ∧ some ⟨z, l⟩ = nb) (apK_more (fun _ _ => rfl) hH hq)
    rw [hr]
    exact hnext _ _ _ (hst.put hR o.dst) hβ'
  · rename_i fo xs ats ho
    split at hq
    case h_2 => exact hq.elim
    rename_i f caps hf
    rcases hq with ⟨R, ⟨hcl, hfun⟩, rfl, rfl⟩ | ⟨z, l, ⟨hcl, hfun⟩, rfl, rfl⟩
    · obtain ⟨⟨fn, hfn, hname, hbody⟩, hcall⟩ := hfun
      have hfr := h.read fo
      rw [hf] at hfr
      generalize hv : a.eval fo = va at hfr
      cases hfr with
      | fn hl hR =>
        rename_i vs
        obtain ⟨ha1, ha2⟩ := args_get (fun x => h.read x) xs
        have hrun : (execOp a.eval o).run C.P w = .ok (.enter f (xs.map a.eval ++ vs)) w := by
          obtain ⟨_, op, _, _, _, _⟩ := o
          simp only at ho; subst ho
          have hnb : ¬ fn.body = none := by cases hb : fn.body <;> simp_all
          have hne : ¬ fn.name = "runtime.NumGoroutine" := by simpa using hname
          simp [execOp, resolve, hv, Deferred.ofValue, invoke, callFunc, hfn, hne, hnb]
        rw [hrun]
        have hX : ∀ b, XOf C.F β s.h b → b < w.heap.size := by
          rintro b (hb | ⟨p, hp, o', e, hb⟩)
          · exact Nat.lt_of_lt_of_le (h.Flt b hb) h.fr.size
          · exact h.lt_size hp hb
        refine ⟨wd_depth, callsIn_wd ?_⟩
        refine Calls.mono (hcall _ w (xs.map a.eval ++ vs) hX (by simp at ha1 hl ⊢; omega) (fun q sv u hsv hu => ?_)) ?_
        · have hmem : sv ∈ xs.toList.map (evA s.t) ++ caps := List.mem_of_getElem? hsv
          have hrs : RS (XOf C.F β s.h) β w sv u := by
            by_cases hq : q < (xs.toList.map (evA s.t)).length
            · rw [List.getElem?_append_left hq] at hsv
              rw [Array.getElem?_append_left (by omega)] at hu
              exact ha2 q sv u hsv hu
            · rw [List.getElem?_append_right (by omega)] at hsv
              rw [Array.getElem?_append_right (by omega)] at hu
              rw [← ha1] at hu
              exact hR _ sv u hsv hu
          exact hrs.closed (hcl _ hmem) B0
        · rintro e w' ⟨v, rfl, hRv, hext⟩
          have hRv' : RS (XOf C.F β s.h) β w' R v := hRv.mono ⟨fun _ h h' => absurd h h', (fun _ _ h => by cases h), Nat.le_refl _, fun _ _ _ => rfl, fun _ _ _ h => h⟩
          exact hnext _ _ _ ((h.ext hext).put hRv' o.dst) fun q hq => rfl
    · obtain ⟨⟨fn, hfn, hname, hbody⟩, hclR, hcall⟩ := hfun
      have hfr := h.read fo
      rw [hf] at hfr
      generalize hv : a.eval fo = va at hfr
      cases hfr with
      | fn hl hR =>
        rename_i vs
        obtain ⟨ha1, ha2⟩ := args_get (fun x => h.read x) xs
        have hrun : (execOp a.eval o).run C.P w = .ok (.enter f (xs.map a.eval ++ vs)) w := by
          obtain ⟨_, op, _, _, _, _⟩ := o
          simp only at ho; subst ho
          have hnb : ¬ fn.body = none := by cases hb : fn.body <;> simp_all
          have hne : ¬ fn.name = "runtime.NumGoroutine" := by simpa using hname
          simp [execOp, resolve, hv, Deferred.ofValue, invoke, callFunc, hfn, hne, hnb]
        rw [hrun]
        have hX : ∀ b, XOf C.F β s.h b → b < w.heap.size := by
          rintro b (hb | ⟨p, hp, o', e, hb⟩)
          · exact Nat.lt_of_lt_of_le (h.Flt b hb) h.fr.size
          · exact h.lt_size hp hb
        refine ⟨wd_depth, callsIn_wd ?_⟩
        refine Calls.mono (hcall _ w (xs.map a.eval ++ vs) hX (by simp at ha1 hl ⊢; omega) (fun q sv u hsv hu => ?_)) ?_
        · have hmem : sv ∈ xs.toList.map (evA s.t) ++ caps := List.mem_of_getElem? hsv
          have hrs : RS (XOf C.F β s.h) β w sv u := by
            by_cases hq : q < (xs.toList.map (evA s.t)).length
            · rw [List.getElem?_append_left hq] at hsv
              rw [Array.getElem?_append_left (by omega)] at hu
              exact ha2 q sv u hsv hu
            · rw [List.getElem?_append_right (by omega)] at hsv
              rw [Array.getElem?_append_right (by omega)] at hu
              rw [← ha1] at hu
              exact hR _ sv u hsv hu
          exact hrs.closed (hcl _ hmem) B0
        · rintro e w' ⟨v, r, rfl, hext, hr, hown, hRv⟩
          obtain ⟨hst, hvv⟩ := h.nfunAt hfresh hne hlt hext hr hclR hown hRv
          exact hnext _ _ _ (hst.put hvv o.dst) fun q hq => by simp only [if_neg hq]
  · obtain ⟨av', u, hK, hr, hR⟩ := qev_sound (fun x => h.read x) (fun k b hb => h.look k b (hH k b hb)) hq
    obtain ⟨rfl, rfl⟩ := hK
    rw [hr]
    exact hnext _ _ _ (h.put hR o.dst) fun q hq => rfl
end
end Go.Eng

set_option linter.unusedSimpArgs false
set_option linter.unusedVariables false
namespace Go.Eng
open Go Go.RowKit

section
variable (ops : Array Oper) (s0 : AState) (m : Nat) (res : Nat → AV × Option Blk)
/-- The state when these operations (the last one first) have been carried out. -/
def stE : List Nat → AState
  | [] => { s0 with k := s0.k + m }
  | i :: r => putA (addB (stE r) (s0.k + i) (res i).2) (dstOf ops i) (res i).1

def preN : Nat → List Nat
  | 0 => []
  | i + 1 => i :: preN i
end

section
variable {ops : Array Oper} {s0 : AState} {m : Nat} {res res' : Nat → AV × Option Blk}

theorem mem_preN {i j : Nat} : j ∈ preN i ↔ j < i := by
  induction i with
  | zero => simp [preN]
  | succ i ih => simp only [preN, List.mem_cons, ih]; omega

theorem stE_congr : ∀ (l : List Nat), (∀ i ∈ l, res i = res' i) → stE ops s0 m res l = stE ops s0 m res' l
  | [], _ => rfl
  | i :: r, h => by
    simp only [stE]
    rw [stE_congr r (fun j hj => h j (List.mem_cons_of_mem _ hj)), h i List.mem_cons_self]

theorem addB_t (s : AState) (n : Nat) (b : Option Blk) : (addB s n b).t = s.t ∧ (addB s n b).n = s.n ∧ (addB s n b).k = s.k := by cases b <;> simp [addB]
theorem putA_h (s : AState) (d : Option Nat) (x : AV) : (putA s d x).h = s.h ∧ (putA s d x).n = s.n ∧ (putA s d x).k = s.k := by
  cases d with
  | none => simp [putA]
  | some d => simp only [putA]; split <;> simp

theorem stE_n : ∀ l, (stE ops s0 m res l).n = s0.n ∧ (stE ops s0 m res l).k = s0.k + m
  | [] => ⟨rfl, rfl⟩
  | i :: r => by
    obtain ⟨h1, h2⟩ := stE_n r
    simp only [stE, putA_h, addB_t]
    exact ⟨h1, h2⟩

theorem addB_x (s : AState) (n : Nat) (b : Option Blk) : (addB s n b).x = s.x := by cases b <;> simp [addB]
theorem putA_x (s : AState) (d : Option Nat) (x : AV) : (putA s d x).x = s.x := by
  cases d with
  | none => simp [putA]
  | some d => simp only [putA]; split <;> simp
theorem stE_x : ∀ l, (stE ops s0 m res l).x = s0.x
  | [] => rfl
  | i :: r => by
    have h1 := stE_x r
    simp only [stE, putA_x, addB_x]
    exact h1

theorem putA_get (s : AState) (d : Option Nat) (x : AV) (t : Nat) : (putA s d x).t t = if d = some t ∧ t < s.n then x else s.t t := by
  cases d with
  | none => simp [putA]
  | some d =>
    simp only [putA, Option.some.injEq]
    by_cases hd : d < s.n
    · rw [if_pos hd]
      simp only [upd]
      by_cases ht : t = d
      · subst ht; simp [hd]
      · rw [if_neg ht, if_neg (fun e => ht e.1.symm)]
    · have hc : ¬ (d = t ∧ t < s.n) := fun e => hd (by rw [e.1]; exact e.2)
      rw [if_neg hd, if_neg hc]

/-- A slot that none of them has. -/
theorem stE_old {t : Nat} : ∀ l, (∀ j ∈ l, dstOf ops j ≠ some t ∨ ¬ t < s0.n) → (stE ops s0 m res l).t t = s0.t t
  | [], _ => rfl
  | i :: r, h => by
    have hi := h i List.mem_cons_self
    simp only [stE]
    have hc : ¬ (dstOf ops i = some t ∧ t < s0.n) := by
      rintro ⟨e1, e2⟩
      rcases hi with h1 | h1
      · exact h1 e1
      · exact h1 e2
    rw [putA_get, (addB_t _ _ _).2.1, (stE_n r).1, (addB_t _ _ _).1, stE_old r (fun j hj => h j (List.mem_cons_of_mem _ hj)), if_neg hc]

/-- A slot that one of them has. -/
theorem stE_new {t i : Nat} (hd : dstOf ops i = some t) (ht : t < s0.n) : ∀ l, i ∈ l → (∀ j ∈ l, j ≠ i → dstOf ops j ≠ some t) → (stE ops s0 m res l).t t = (res i).1
  | [], h, _ => by simp at h
  | j :: r, h, hu => by
    simp only [stE]
    rw [putA_get, (addB_t _ _ _).2.1, (stE_n r).1, (addB_t _ _ _).1]
    by_cases hji : j = i
    · subst hji; rw [if_pos ⟨hd, ht⟩]
    · have hc : ¬ (dstOf ops j = some t ∧ t < s0.n) := fun e => hu j List.mem_cons_self hji e.1
      rw [if_neg hc]
      exact stE_new hd ht r ((List.mem_cons.1 h).resolve_left (Ne.symm hji)) (fun q hq => hu q (List.mem_cons_of_mem _ hq))

theorem stE_h : ∀ l, (stE ops s0 m res l).h = (l.filterMap fun i => (res i).2.map fun b => (s0.k + i, b)) ++ s0.h
  | [] => rfl
  | i :: r => by
    simp only [stE]
    rw [(putA_h _ _ _).1]
    cases hb : (res i).2 with
    | none => simp [addB, hb, stE_h r]
    | some b => simp [addB, hb, stE_h r]

theorem find_app (h1 h2 : List (Nat × Blk)) (n : Nat) (hn : ∀ p ∈ h1, p.1 ≠ n) : find (h1 ++ h2) n = find h2 n := by
  induction h1 with
  | nil => rfl
  | cons p r ih =>
    obtain ⟨q, b⟩ := p
    simp only [List.cons_append, find]
    rw [if_neg (hn (q, b) List.mem_cons_self)]
    exact ih fun p hp => hn p (List.mem_cons_of_mem _ hp)

theorem find_old {n : Nat} (hn : n < s0.k) (l : List Nat) : find (stE ops s0 m res l).h n = find s0.h n := by
  rw [stE_h]
  refine find_app _ _ _ fun p hp => ?_
  simp only [List.mem_filterMap, Option.map_eq_some_iff] at hp
  obtain ⟨i, _, b, _, rfl⟩ := hp
  simp only; omega

theorem find_none (h : List (Nat × Blk)) (n : Nat) (hn : ∀ p ∈ h, p.1 ≠ n) : find h n = none := by
  have := find_app h [] n hn
  simpa [find] using this

theorem find_new {j : Nat} (h0 : ∀ p ∈ s0.h, p.1 < s0.k) : ∀ (l : List Nat), j ∈ l → find (stE ops s0 m res l).h (s0.k + j) = (res j).2 := by
  intro l
  rw [stE_h]
  induction l with
  | nil => intro h; simp at h
  | cons i r ih =>
    intro h
    by_cases hij : i = j
    · subst hij
      cases hb : (res i).2 with
      | some b => simp [hb, find]
      | none =>
        simp only [List.filterMap_cons, hb, Option.map_none]
        by_cases hr : i ∈ r
        · rw [ih hr, hb]
        · refine find_none _ _ fun p hp => ?_
          rw [List.mem_append] at hp
          rcases hp with hp | hp
          · simp only [List.mem_filterMap, Option.map_eq_some_iff] at hp
            obtain ⟨q, hq, b, _, rfl⟩ := hp
            simp only
            intro e
            have : q = i := by omega
            exact hr (this ▸ hq)
          · have := h0 p hp; omega
    · have hr : j ∈ r := (List.mem_cons.1 h).resolve_left (Ne.symm hij)
      cases hb : (res i).2 with
      | none => simp only [List.filterMap_cons, hb, Option.map_none]; exact ih hr
      | some b =>
        simp only [List.filterMap_cons, hb, Option.map_some, List.cons_append, find]
        rw [if_neg (by omega)]
        exact ih hr
end

/-- What one operation of the walk is shown to give, in the state that the text's order has before it. -/
def EvO (P : Program) (A : List (List Nat × List Nat)) (ops : Array Oper) (s0 : AState) (m : Nat) (res : Nat → AV × Option Blk) (i : Nat) (o : Oper) : Prop :=
  match o.guard with
  | none => qopK P (evA (stE ops s0 m res (preN i)).t) (maskH s0 (stE ops s0 m res (preN i)) A i) o (s0.k + i) (fun x y => x = (res i).1 ∧ y = (res i).2)
  | some _ => ∃ b want, guardA ops (stE ops s0 m res (preN i)).t o = some (b, want) ∧
      (b = want → qopK P (evA (stE ops s0 m res (preN i)).t) (maskH s0 (stE ops s0 m res (preN i)) A i) o (s0.k + i) (fun x y => x = (res i).1 ∧ y = (res i).2)) ∧ (b ≠ want → res i = (un, none))

theorem EvO_congr {P : Program} {A : List (List Nat × List Nat)} {ops : Array Oper} {s0 : AState} {m : Nat} {res res' : Nat → AV × Option Blk} {i : Nat} {o : Oper} (h : ∀ j, j ≤ i → res j = res' j) (he : EvO P A ops s0 m res i o) : EvO P A ops s0 m res' i o := by
  have e1 : stE ops s0 m res (preN i) = stE ops s0 m res' (preN i) := stE_congr _ fun j hj => h j (by have := mem_preN.1 hj; omega)
  have e2 := h i (Nat.le_refl i)
  unfold EvO at *
  rw [← e1, ← e2]; exact he

/-- Out of the walk: what each operation gives, and the end. -/
theorem vcQ_res {P : Program} {A : List (List Nat × List Nat)} {ops : Array Oper} {s0 : AState} {m : Nat} {F : AState → Prop} : ∀ (L : List Oper) (i : Nat) (res : Nat → AV × Option Blk),
    (∀ q, q < L.length → L[q]? = ops[i + q]?) → vcQ P A ops s0 F L i (stE ops s0 m res (preN i)) →
    ∃ res' : Nat → AV × Option Blk, (∀ j, j < i → res' j = res j) ∧ (∀ q o, q < L.length → ops[i + q]? = some o → EvO P A ops s0 m res' (i + q) o) ∧ F (stE ops s0 m res' (preN (i + L.length)))
  | [], i, res, _, h => ⟨res, fun _ _ => rfl, fun q o hq => absurd hq (by simp), h⟩
  | o :: L, i, res, hL, h => by
    have ho : ops[i]? = some o := by simpa using (hL 0 (by simp)).symm
    have hdst : dstOf ops i = o.dst := by simp [dstOf, ho]
    -- once the first one's answer is known
    have step : ∀ r : AV × Option Blk, EvO P A ops s0 m (fun q => if q = i then r else res q) i o → vcQ P A ops s0 F L (i + 1) (putA (addB (stE ops s0 m res (preN i)) (s0.k + i) r.2) o.dst r.1) →
        ∃ res' : Nat → AV × Option Blk, (∀ j, j < i → res' j = res j) ∧ (∀ q o', q < (o :: L).length → ops[i + q]? = some o' → EvO P A ops s0 m res' (i + q) o') ∧ F (stE ops s0 m res' (preN (i + (o :: L).length))) := by
      intro r hev hrest
      have e1 : stE ops s0 m (fun q => if q = i then r else res q) (preN (i + 1)) = putA (addB (stE ops s0 m res (preN i)) (s0.k + i) r.2) o.dst r.1 := by
        simp only [preN, stE, if_true, hdst]
        rw [stE_congr (res := fun q => if q = i then r else res q) (res' := res) (preN i) fun j hj => by
          have := mem_preN.1 hj
          rw [if_neg (by omega)]]
      rw [← e1] at hrest
      obtain ⟨res', h1, h2, h3⟩ := vcQ_res L (i + 1) _ (fun q hq => by have := hL (q + 1) (by simp; omega); simpa [Nat.add_assoc, Nat.add_comm 1 q] using this) hrest
      refine ⟨res', fun j hj => by rw [h1 j (by omega)]; rw [if_neg (by omega)], fun q o' hq ho' => ?_, (show i + 1 + L.length = i + (o :: L).length by simp; omega) ▸ h3⟩
      match q with
      | 0 =>
        rw [Nat.add_zero] at ho' ⊢
        rw [ho] at ho'; cases ho'
        exact EvO_congr (fun j hj => (h1 j (by omega)).symm) hev
      | q + 1 =>
        have := h2 q o' (by simpa using hq) (by rw [← ho']; congr 1; omega)
        have e : i + 1 + q = i + (q + 1) := by omega
        rw [← e]; exact this
    have same : ∀ r : AV × Option Blk, stE ops s0 m (fun q => if q = i then r else res q) (preN i) = stE ops s0 m res (preN i) := fun r => stE_congr _ fun j hj => by
      have := mem_preN.1 hj
      rw [if_neg (by omega)]
    unfold vcQ at h
    split at h
    · rename_i hg
      obtain ⟨av, nb, h1, h2⟩ := qopK_det h
      refine step (av, nb) ?_ h1
      unfold EvO
      rw [hg, same]
      simp only [if_true]
      exact h2
    · rename_i g hg
      split at h
      case h_2 => exact h.elim
      rename_i b want hgd
      by_cases hb : b = want
      · obtain ⟨av, nb, h1, h2⟩ := qopK_det (h.1 hb)
        refine step (av, nb) ?_ h1
        unfold EvO
        rw [hg, same]
        simp only [if_true]
        exact ⟨b, want, hgd, fun _ => h2, fun hne => absurd hb hne⟩
      · refine step (un, none) ?_ (h.2 hb)
        unfold EvO
        rw [hg, same]
        simp only [if_true]
        exact ⟨b, want, hgd, fun e => absurd e hb, fun _ => trivial⟩
end Go.Eng

set_option linter.unusedSimpArgs false
set_option linter.unusedVariables false
namespace Go.Eng
open Go Go.RowKit

section
variable {C : Ctx} {s : AState} {β : Bt} {a : Act} {w : World}

theorem StR.hmem (h : StR C s β a w) {h' : List (Nat × Blk)} {t' : Nat → AV} (hm : ∀ p, p ∈ h' ↔ p ∈ s.h) (hnd : (h'.map (·.1)).Nodup) (ht : ∀ i, t' i = s.t i) : StR C { s with h := h', t := t' } β a w := by
  have hX : ∀ b, XOf C.F β h' b ↔ XOf C.F β s.h b := fun b => by
    constructor
    · rintro (hb | ⟨p, hp, r⟩)
      · exact .inl hb
      · exact .inr ⟨p, (hm p).1 hp, r⟩
    · rintro (hb | ⟨p, hp, r⟩)
      · exact .inl hb
      · exact .inr ⟨p, (hm p).2 hp, r⟩
  have m : Mono (XOf C.F β s.h) β w (XOf C.F β h') β w := ⟨fun b h1 h2 => absurd ((hX b).1 h1) h2, fun _ _ h => h, Nat.le_refl _, fun _ _ _ => rfl, fun _ _ _ h => h⟩
  refine ⟨h.defers, h.size, fun i => ?_, fun p hp => (h.own p ((hm p).1 hp)).mono m (fun _ _ _ _ => rfl) (fun h => h), fun p hp => h.lt p ((hm p).1 hp), h.βlt, hnd,
    fun p hp q hq => h.inj p ((hm p).1 hp) q ((hm q).1 hq), fun p hp => h.mine p ((hm p).1 hp), h.fr, h.Flt, h.sv.mono m, h.yy⟩
  simp only [ht]
  exact (h.tm i).mono m
end

section
variable {ops : Array Oper} {s0 : AState} {m : Nat} {res : Nat → AV × Option Blk}

theorem stE_nd (h0 : ∀ p ∈ s0.h, p.1 < s0.k) (hnd : (s0.h.map (·.1)).Nodup) : ∀ l : List Nat, l.Nodup → ((stE ops s0 m res l).h.map (·.1)).Nodup := by
  intro l
  rw [stE_h]
  induction l with
  | nil => intro _; simpa using hnd
  | cons i r ih =>
    intro hl
    obtain ⟨h1, h2⟩ := List.nodup_cons.1 hl
    cases hb : (res i).2 with
    | none => simp only [List.filterMap_cons, hb, Option.map_none]; exact ih h2
    | some b =>
      simp only [List.filterMap_cons, hb, Option.map_some, List.cons_append, List.map_cons, List.nodup_cons]
      refine ⟨fun hm => ?_, ih h2⟩
      obtain ⟨p, hp, he⟩ := List.mem_map.1 hm
      rw [List.mem_append] at hp
      rcases hp with hp | hp
      · simp only [List.mem_filterMap, Option.map_eq_some_iff] at hp
        obtain ⟨q, hq, b', _, rfl⟩ := hp
        simp only at he
        have : q = i := by omega
        exact h1 (this ▸ hq)
      · have := h0 p hp; omega

theorem stE_mem {l l' : List Nat} (h : ∀ i, i ∈ l ↔ i ∈ l') (p : Nat × Blk) : p ∈ (stE ops s0 m res l).h ↔ p ∈ (stE ops s0 m res l').h := by
  simp only [stE_h, List.mem_append, List.mem_filterMap]
  constructor
  · rintro (⟨i, hi, r⟩ | hp)
    · exact .inl ⟨i, (h i).1 hi, r⟩
    · exact .inr hp
  · rintro (⟨i, hi, r⟩ | hp)
    · exact .inl ⟨i, (h i).2 hi, r⟩
    · exact .inr hp

theorem stE_names (h0 : ∀ p ∈ s0.h, p.1 < s0.k) {l : List Nat} {p : Nat × Blk} (hp : p ∈ (stE ops s0 m res l).h) : p.1 < s0.k ∨ ∃ i ∈ l, p.1 = s0.k + i := by
  rw [stE_h, List.mem_append] at hp
  rcases hp with hp | hp
  · simp only [List.mem_filterMap, Option.map_eq_some_iff] at hp
    obtain ⟨i, hi, b, _, rfl⟩ := hp
    exact .inr ⟨i, hi, rfl⟩
  · exact .inl (h0 p hp)
end

section
variable {ops : Array Oper} {m : Nat} {A : List (List Nat × List Nat)}

theorem drawOk_one (hok : drawWk ops m A = true) {i : Nat} {o : Oper} (ho : ops[i]? = some o) : drawOne ops m A i o = true := by
  unfold drawWk at hok
  simp only [Bool.and_eq_true, List.all_eq_true, List.mem_range] at hok
  have hi : i < ops.size := (Array.getElem?_eq_some_iff.1 ho).1
  have := hok.2 i hi
  rw [ho] at this
  exact this

theorem drawOk_m (hok : drawWk ops m A = true) : m ≤ ops.size := by
  unfold drawWk at hok
  simp only [Bool.and_eq_true, decide_eq_true_eq] at hok
  exact hok.1

structure DrawFacts (ops : Array Oper) (m : Nat) (A : List (List Nat × List Nat)) (i : Nat) (o : Oper) : Prop where
  back : ∀ p ∈ predsO o, p < i
  tail : m ≤ i → ∀ j, j < m → j ∈ predsO o ∨ j ∈ (A.getD i ([], [])).1
  anc : ∀ j ∈ (A.getD i ([], [])).1, j < i ∧ (j ∈ predsO o ∨ ∃ p ∈ predsO o, j ∈ (A.getD p ([], [])).1)
  other : i < m → ∀ j d, j < m → j ≠ i → dstOf ops j = some d → o.dst ≠ some d ∧ (d ∈ usesT o → if j < i then j ∈ (A.getD i ([], [])).1 else i ∈ (A.getD j ([], [])).1)
  guard : i < m → ∀ j want, o.guard = some (j, want) → j < i ∧ j ∈ (A.getD i ([], [])).1

theorem draw_facts (hok : drawWk ops m A = true) {i : Nat} {o : Oper} (ho : ops[i]? = some o) : DrawFacts ops m A i o := by
  have h := drawOk_one hok ho
  unfold drawOne at h
  simp only [Bool.and_eq_true, Bool.or_eq_true, List.all_eq_true, decide_eq_true_eq, List.mem_range, List.contains_iff_mem, List.any_eq_true] at h
  obtain ⟨⟨⟨h1, h2⟩, h4⟩, h3⟩ := h
  refine ⟨h1, fun hi j hj => (h2.resolve_left (by omega)) j hj, fun j hj => h4 j hj, fun hi j d hj hji hd => ?_, fun hi j want hg => ?_⟩
  · have := ((h3.resolve_left (by omega)).1) j hj
    rcases this with h' | h'
    · exact absurd (by simpa using h') hji
    · rw [hd] at h'
      simp only [Bool.and_eq_true, bne_iff_ne, ne_eq, Bool.or_eq_true, Bool.not_eq_true'] at h'
      refine ⟨h'.1, fun hu => ?_⟩
      rcases h'.2 with h4 | h4
      · have : (usesT o).contains d = true := by simpa using hu
        rw [this] at h4; cases h4
      · by_cases hlt : j < i
        · rw [if_pos hlt] at h4 ⊢; simpa using h4
        · rw [if_neg hlt] at h4 ⊢; simpa using h4
  · have := (h3.resolve_left (by omega)).2
    rw [hg] at this
    simpa using this

/-- What is closed under the edges holds all that comes before. -/
theorem anc_mem (hok : drawWk ops m A = true) {ex : List Nat} (hcl : ∀ i ∈ ex, ∀ o, ops[i]? = some o → ∀ p ∈ predsO o, p ∈ ex) : ∀ i, ∀ o, ops[i]? = some o → (∀ p ∈ predsO o, p ∈ ex) → ∀ j ∈ (A.getD i ([], [])).1, j ∈ ex := by
  intro i
  induction i using Nat.strongRecOn with
  | _ i ih =>
    intro o ho hp j hj
    have f := draw_facts hok ho
    obtain ⟨hji, hj'⟩ := f.anc j hj
    rcases hj' with h | ⟨p, hpp, hjp⟩
    · exact hp j h
    · have hpi := f.back p hpp
      have hps : p < ops.size := by have := (Array.getElem?_eq_some_iff.1 ho).1; omega
      exact ih p hpi ops[p] (Array.getElem?_eq_getElem hps) (hcl p (hp p hpp) ops[p] (Array.getElem?_eq_getElem hps)) j hjp

theorem mem_predsO {o : Oper} {p : Nat} : p ∈ predsO o ↔ ∃ e ∈ o.after, Region.binds .any e = true ∧ e.on = p := by
  simp only [predsO, List.mem_map, List.mem_filter, Array.mem_toList_iff, bindsA]
  constructor
  · rintro ⟨e, ⟨h1, h2⟩, h3⟩; exact ⟨e, h1, h2, h3⟩
  · rintro ⟨e, h1, h2, h3⟩; exact ⟨e, ⟨h1, h2⟩, h3⟩

/-- The tail comes in the text's order. -/
theorem tailOk_at (ht : tailOk ops m A = true) {i : Nat} {o : Oper} (ho : ops[i]? = some o) (hi : m ≤ i) : ∀ j, j < i → j ∈ predsO o ∨ j ∈ (A.getD i ([], [])).1 := by
  unfold tailOk at ht
  simp only [List.all_eq_true, List.mem_range] at ht
  have := ht i (Array.getElem?_eq_some_iff.1 ho).1
  rw [ho] at this
  simp only [Bool.or_eq_true, decide_eq_true_eq, List.all_eq_true, List.mem_range, List.contains_iff_mem] at this
  exact this.resolve_left (by omega)
theorem tail_any {ro : Option Nat} {P : Program} {Q : Exit → Act → World → Prop} (hok : drawWk ops m A = true) (ht : tailOk ops m A = true) : ∀ (n j : Nat), m ≤ j → j + n = ops.size → ∀ (listed : Array Bool) (a : Act) (w : World),
    (∀ i, i < ops.size → listed.getD i true = decide (i < j)) → listed.size = ops.size → wpListIn (wd ro) 0 P ops Q (ops.toList.drop j) a w → wpAnyIn (wd ro) 0 P .any ops Q n listed a w := by
  intro n
  induction n with
  | zero =>
    intro j hmj hj listed a w hl hls h
    have hnil : ops.toList.drop j = [] := by simp; omega
    rw [hnil] at h
    refine ⟨?_, h⟩
    rw [List.eq_nil_iff_forall_not_mem]
    intro i hi
    obtain ⟨h1, o, ho, _⟩ := mem_ready.1 hi
    have hlt := (Array.getElem?_eq_some_iff.1 ho).1
    rw [hl i hlt] at h1
    simp at h1; omega
  | succ n ih =>
    intro j hmj hj listed a w hl hls h
    have hjs : j < ops.size := by omega
    have hoj : ops[j]? = some ops[j] := Array.getElem?_eq_getElem hjs
    have hd : ops.toList.drop j = ops[j] :: ops.toList.drop (j + 1) := by
      rw [List.drop_eq_getElem_cons (by simpa using hjs)]; simp
    rw [hd] at h
    have hready : ∀ i, i ∈ Region.ready .any ops listed ↔ i = j := by
      intro i
      constructor
      · intro hi
        obtain ⟨h1, o, ho, he⟩ := mem_ready.1 hi
        have hlt := (Array.getElem?_eq_some_iff.1 ho).1
        rw [hl i hlt] at h1
        have hji : j ≤ i := by simpa using h1
        rcases Nat.lt_or_eq_of_le hji with hlt' | rfl
        · have hpl : ∀ p ∈ predsO o, p < j := fun p hp => by
            obtain ⟨e, he1, he2, he3⟩ := mem_predsO.1 hp
            have := he e he1 he2
            rw [he3] at this
            have hpi := (draw_facts hok ho).back p hp
            have hd' : listed.getD p false = listed.getD p true := by
              have : p < ops.size := by omega
              simp [Array.getD, hls, this]
            rw [hd', hl p (by omega)] at this
            simpa using this
          have hp : j ∈ predsO o := by
            rcases tailOk_at ht ho (by omega) j hlt' with hp | hp
            · exact hp
            · have := anc_mem hok (ex := List.range j) (fun q hq oq hoq p hp => by
                have := (draw_facts hok hoq).back p hp
                have := List.mem_range.1 hq
                exact List.mem_range.2 (by omega)) i o ho (fun p hp => List.mem_range.2 (hpl p hp)) j hp
              have := List.mem_range.1 this
              omega
          obtain ⟨e, he1, he2, he3⟩ := mem_predsO.1 hp
          have := he e he1 he2
          rw [he3] at this
          have hd' : listed.getD j false = listed.getD j true := by simp [Array.getD, hls, hjs]
          rw [hd', hl j hjs] at this
          simp at this
        · rfl
      · rintro rfl
        refine mem_ready.2 ⟨by rw [hl i hjs]; simp, _, hoj, fun e he hb => ?_⟩
        have hp := (draw_facts hok hoj).back e.on (mem_predsO.2 ⟨e, he, hb, rfl⟩)
        have hd' : listed.getD e.on false = listed.getD e.on true := by
          have : e.on < ops.size := by omega
          simp [Array.getD, hls, this]
        rw [hd', hl _ (by omega)]
        simpa using hp
    refine ⟨fun hnil => ?_, fun i hi => ?_⟩
    · have := (hready j).2 rfl
      rw [hnil] at this; cases this
    · obtain rfl := (hready i).1 hi
      have hnext : ∀ a w, wpListIn (wd ro) 0 P ops Q (ops.toList.drop (i + 1)) a w → wpAnyIn (wd ro) 0 P .any ops Q n (listed.setIfInBounds i true) a w := fun a w h' =>
        ih (i + 1) (by omega) (by omega) _ a w (fun q hq => by
          by_cases hqi : i = q
          · subst hqi; simp [Array.getD, hls, hq]
          · have e1 : (listed.setIfInBounds i true).getD q true = listed.getD q true := getD_set_ne true hqi
            rw [e1, hl q hq]
            simp; omega) (by simp [hls]) h'
      unfold wpOpIn
      simp only [hoj]
      unfold wpListIn at h
      split
      · rename_i hw; rw [if_pos hw] at h; exact Oper.wpIn_mono hnext h
      · rename_i hw; rw [if_neg hw] at h; exact ⟨h.1, hnext _ _ h.2⟩
end
end Go.Eng

set_option linter.unusedSimpArgs false
set_option linter.unusedVariables false
namespace Go.Eng
open Go Go.RowKit

theorem usesT_mem {o : Oper} {t : Nat} (h : Operand.tmp t ∈ o.op.operands.toList) : t ∈ usesT o := by
  unfold usesT
  rw [List.mem_filterMap]
  exact ⟨.tmp t, h, rfl⟩

theorem nodup_len {m : Nat} : ∀ {l : List Nat}, l.Nodup → (∀ i ∈ l, i < m) → l.length ≤ m := by
  induction m with
  | zero =>
    intro l _ hlt
    cases l with
    | nil => simp
    | cons x r => exact absurd (hlt x List.mem_cons_self) (by omega)
  | succ m ih =>
    intro l hnd hlt
    by_cases hm : m ∈ l
    · have h1 := ih (l := l.erase m) (hnd.erase m) (fun i hi => by
        have h2 := hlt i (List.mem_of_mem_erase hi)
        have h3 : i ≠ m := fun e => by subst e; exact (hnd.not_mem_erase) hi
        omega)
      rw [List.length_erase_of_mem hm] at h1
      omega
    · have := ih (l := l) hnd (fun i hi => by
        have h2 := hlt i hi
        have h3 : i ≠ m := fun e => hm (e ▸ hi)
        omega)
      omega

theorem len_ge {m : Nat} : ∀ {l : List Nat}, (∀ j, j < m → j ∈ l) → m ≤ l.length := by
  induction m with
  | zero => intro l _; omega
  | succ m ih =>
    intro l h
    have hm := h m (by omega)
    have := ih (l := l.erase m) (fun j hj => (List.mem_erase_of_ne (by omega)).2 (h j (by omega)))
    rw [List.length_erase_of_mem hm] at this
    have : 0 < l.length := List.length_pos_of_mem hm
    omega

theorem full_mem {l : List Nat} {m : Nat} (hnd : l.Nodup) (hlt : ∀ i ∈ l, i < m) (hlen : l.length = m) : ∀ i, i < m → i ∈ l := by
  intro i hi
  apply Classical.byContradiction
  intro hn
  have := nodup_len (l := i :: l) (List.nodup_cons.2 ⟨hn, hnd⟩) (m := m) (fun j hj => by
    rcases List.mem_cons.1 hj with rfl | hj
    · exact hi
    · exact hlt j hj)
  simp at this; omega

theorem exists_least {l : List Nat} {m : Nat} (hnd : l.Nodup) (hlt : ∀ i ∈ l, i < m) (hlen : l.length < m) : ∃ i, i < m ∧ i ∉ l ∧ ∀ j, j < i → j ∈ l := by
  have key : ∀ n, n ≤ m → (∀ j, j < n → j ∈ l) ∨ ∃ i, i < n ∧ i ∉ l ∧ ∀ j, j < i → j ∈ l := by
    intro n
    induction n with
    | zero => intro _; exact .inl fun j hj => absurd hj (by omega)
    | succ n ih =>
      intro hn
      rcases ih (by omega) with h | ⟨i, h1, h2, h3⟩
      · by_cases hn' : n ∈ l
        · exact .inl fun j hj => by
            rcases Nat.lt_succ_iff_lt_or_eq.1 hj with h' | rfl
            · exact h j h'
            · exact hn'
        · exact .inr ⟨n, by omega, hn', h⟩
      · exact .inr ⟨i, by omega, h2, h3⟩
  rcases key m (Nat.le_refl m) with h | ⟨i, h1, h2, h3⟩
  · have := len_ge h
    omega
  · exact ⟨i, h1, h2, h3⟩

theorem draw_any {ro : Option Nat} {P : Program} {C : Ctx} (hP : C.P = P) {ops : Array Oper} {m : Nat} {A : List (List Nat × List Nat)} (hok : drawWk ops m A = true) {s0 : AState} (h0 : ∀ p ∈ s0.h, p.1 < s0.k) (hnd0 : (s0.h.map (·.1)).Nodup)
    {res : Nat → AV × Option Blk} (hres : ∀ i o, i < m → ops[i]? = some o → EvO P A ops s0 m res i o) {Q : Exit → Act → World → Prop}
    (hF : ∀ a w, St C (stE ops s0 m res (preN m)) a w → ∀ (n : Nat) (listed : Array Bool), m + n = ops.size → listed.size = ops.size → (∀ i, i < ops.size → listed.getD i true = decide (i < m)) → wpAnyIn (wd ro) 0 P .any ops Q n listed a w) :
    ∀ (n : Nat) (ex : List Nat) (listed : Array Bool) (β : Bt) (a : Act) (w : World), ex.length + n = ops.size → ex.Nodup → (∀ i ∈ ex, i < m) → (∀ i ∈ ex, ∀ o, ops[i]? = some o → ∀ p ∈ predsO o, p ∈ ex) →
      listed.size = ops.size → (∀ i, i < ops.size → listed.getD i true = decide (i ∈ ex)) → (∀ j, j < m → j ∉ ex → β (s0.k + j) = none) →
      StR C (stE ops s0 m res ex) β a w → wpAnyIn (wd ro) 0 P .any ops Q n listed a w := by
  subst hP
  have hm := drawOk_m hok
  -- all have come up
  have done : ∀ (n : Nat) (ex : List Nat) (listed : Array Bool) (β : Bt) (a : Act) (w : World), ex.length + n = ops.size → ex.length = m → ex.Nodup → (∀ i ∈ ex, i < m) → listed.size = ops.size →
      (∀ i, i < ops.size → listed.getD i true = decide (i ∈ ex)) → StR C (stE ops s0 m res ex) β a w → wpAnyIn (wd ro) 0 C.P .any ops Q n listed a w := by
    intro n ex listed β a w hlen hfl hnd hlt hls hl hst
    have hfull := full_mem hnd hlt hfl
    have hmem : ∀ i, i ∈ preN m ↔ i ∈ ex := fun i => by rw [mem_preN]; exact ⟨fun h => hfull i h, fun h => hlt i h⟩
    have hpn : ∀ q, (preN q).Nodup := by
      intro q
      induction q with
      | zero => exact List.nodup_nil
      | succ q ih => exact List.nodup_cons.2 ⟨fun h => by have := mem_preN.1 h; omega, ih⟩
    have ht : ∀ t, (stE ops s0 m res (preN m)).t t = (stE ops s0 m res ex).t t := by
      intro t
      by_cases hw : ∃ i, i < m ∧ dstOf ops i = some t ∧ t < s0.n
      · obtain ⟨i, hi, hd, htn⟩ := hw
        have huniq : ∀ j, j < m → j ≠ i → dstOf ops j ≠ some t := by
          intro j hj hji hdj
          have his : i < ops.size := by omega
          have f := draw_facts hok (Array.getElem?_eq_getElem his)
          refine (f.other hi j t hj hji hdj).1 ?_
          simpa [dstOf, his] using hd
        rw [stE_new hd htn _ ((hmem i).2 (hfull i hi)) (fun j hj => huniq j (mem_preN.1 hj)), stE_new hd htn ex (hfull i hi) (fun j hj => huniq j (hlt j hj))]
      · have hno : ∀ j, j < m → dstOf ops j ≠ some t ∨ ¬ t < s0.n := by
          intro j hj
          by_cases h1 : dstOf ops j = some t
          · exact .inr fun h2 => hw ⟨j, hj, h1, h2⟩
          · exact .inl h1
        rw [stE_old _ (fun j hj => hno j (mem_preN.1 hj)), stE_old _ (fun j hj => hno j (hlt j hj))]
    have hn := hst.hmem (h' := (stE ops s0 m res (preN m)).h) (t' := (stE ops s0 m res (preN m)).t) (stE_mem hmem) (stE_nd h0 hnd0 _ (hpn m)) ht
    have e1 := stE_n (ops := ops) (s0 := s0) (m := m) (res := res) ex
    have e2 := stE_n (ops := ops) (s0 := s0) (m := m) (res := res) (preN m)
    have hmk : ∀ (x : AState) (n k : Nat) (z : Aux), n = x.n → k = x.k → z = x.x → AState.mk n x.t x.h k z = x := by rintro ⟨_, _, _, _, _⟩ _ _ _ rfl rfl rfl; rfl
    have hn' : StR C (AState.mk (stE ops s0 m res ex).n (stE ops s0 m res (preN m)).t (stE ops s0 m res (preN m)).h (stE ops s0 m res ex).k (stE ops s0 m res ex).x) β a w := hn
    rw [hmk (stE ops s0 m res (preN m)) _ _ _ (e1.1.trans e2.1.symm) (e1.2.trans e2.2.symm) ((stE_x ex).trans (stE_x (preN m)).symm)] at hn'
    exact hF a w ⟨β, hn'⟩ n listed (by omega) hls (fun i hi => by rw [hl i hi]; congr 1; exact propext ⟨fun h => hlt i h, fun h => hfull i h⟩)
  intro n
  induction n with
  | zero =>
    intro ex listed β a w hlen hnd hlt hcl hls hl hβ hst
    have := nodup_len hnd hlt
    exact done 0 ex listed β a w hlen (by omega) hnd hlt hls hl hst
  | succ n ih =>
    intro ex listed β a w hlen hnd hlt hcl hls hl hβ hst
    by_cases hfl : ex.length = m
    · exact done _ ex listed β a w hlen hfl hnd hlt hls hl hst
    have hexm := nodup_len hnd hlt
    have hgd : ∀ q, q < ops.size → listed.getD q false = listed.getD q true := fun q hq => by simp [Array.getD, hls, hq]
    refine ⟨fun hnil => ?_, fun i hi => ?_⟩
    · -- the least that has not come up may come up
      obtain ⟨i, h1, h2, h3⟩ := exists_least hnd hlt (by omega)
      have his : i < ops.size := by omega
      have hin : i ∈ Region.ready .any ops listed := by
        refine mem_ready.2 ⟨by rw [hl i his]; simpa using h2, ops[i], Array.getElem?_eq_getElem his, fun e he hb => ?_⟩
        have hp := (draw_facts hok (Array.getElem?_eq_getElem his)).back e.on (mem_predsO.2 ⟨e, he, hb, rfl⟩)
        rw [hgd _ (by omega), hl _ (by omega)]
        simpa using h3 _ hp
      rw [hnil] at hin; cases hin
    · obtain ⟨h1, o, ho, he⟩ := mem_ready.1 hi
      have his : i < ops.size := (Array.getElem?_eq_some_iff.1 ho).1
      rw [hl i his] at h1
      have hnex : i ∉ ex := by simpa using h1
      have f := draw_facts hok ho
      have hpre : ∀ p ∈ predsO o, p ∈ ex := by
        intro p hp
        obtain ⟨e, he1, he2, rfl⟩ := mem_predsO.1 hp
        have := he e he1 he2
        have hps := f.back e.on hp
        rw [hgd _ (by omega), hl _ (by omega)] at this
        simpa using this
      have him : i < m := by
        apply Classical.byContradiction
        intro hge
        have hall : ∀ j, j < m → j ∈ ex := fun j hj => (f.tail (by omega) j hj).elim (hpre j) (fun h => anc_mem hok hcl i o ho hpre j h)
        have := len_ge hall
        omega
      have hdst : dstOf ops i = o.dst := by simp [dstOf, ho]
      have hanc := anc_mem hok hcl i o ho hpre
      -- a slot that the operation looks at is as it is in the text's order
      have hslot : ∀ t, (t ∈ usesT o ∨ ∃ j, j ∈ (A.getD i ([], [])).1 ∧ dstOf ops j = some t) → (stE ops s0 m res ex).t t = (stE ops s0 m res (preN i)).t t := by
        intro t htu
        by_cases hw : ∃ j, j < m ∧ j ≠ i ∧ dstOf ops j = some t ∧ t < s0.n
        · obtain ⟨j, hj, hji, hd, htn⟩ := hw
          have hjs : j < ops.size := by omega
          have huniq : ∀ q, q < m → q ≠ j → dstOf ops q ≠ some t := by
            intro q hq hqj hdq
            have fj := draw_facts hok (Array.getElem?_eq_getElem hjs)
            refine (fj.other hj q t hq hqj hdq).1 ?_
            simpa [dstOf, hjs] using hd
          have hrel : j < i ∧ j ∈ (A.getD i ([], [])).1 ∨ i < j ∧ j ∉ ex := by
            rcases htu with htu | ⟨q, hq, hdq⟩
            · have := (f.other him j t hj hji hd).2 htu
              by_cases hlt' : j < i
              · rw [if_pos hlt'] at this; exact .inl ⟨hlt', this⟩
              · rw [if_neg hlt'] at this
                refine .inr ⟨by omega, fun hje => hnex ?_⟩
                exact anc_mem hok hcl j ops[j] (Array.getElem?_eq_getElem hjs) (hcl j hje ops[j] (Array.getElem?_eq_getElem hjs)) i this
            · have hqi := (f.anc q hq).1
              have : q = j := by
                apply Classical.byContradiction
                intro hne
                exact huniq q (by omega) hne hdq
              subst this
              exact .inl ⟨hqi, hq⟩
          rcases hrel with ⟨hlt', hA⟩ | ⟨hgt, hne⟩
          · rw [stE_new hd htn ex (hanc j hA) (fun q hq => huniq q (hlt q hq)), stE_new hd htn (preN i) (mem_preN.2 hlt') (fun q hq => huniq q (by have := mem_preN.1 hq; omega))]
          · rw [stE_old ex (fun q hq => by
              by_cases hqj : q = j
              · subst hqj; exact absurd hq hne
              · exact .inl (huniq q (hlt q hq) hqj)), stE_old (preN i) (fun q hq => by
              have := mem_preN.1 hq
              exact .inl (huniq q (by omega) (by omega)))]
        · have hno : ∀ q, q < m → q ≠ i → dstOf ops q ≠ some t ∨ ¬ t < s0.n := by
            intro q hq hqi
            by_cases h1 : dstOf ops q = some t
            · exact .inr fun h2 => hw ⟨q, hq, hqi, h1, h2⟩
            · exact .inl h1
          rw [stE_old ex (fun q hq => hno q (hlt q hq) (fun e => hnex (e ▸ hq))), stE_old (preN i) (fun q hq => by have := mem_preN.1 hq; exact hno q (by omega) (by omega))]
      have hops : ∀ x ∈ o.op.operands.toList, evA (stE ops s0 m res (preN i)).t x = evA (stE ops s0 m res ex).t x := by
        intro x hx
        cases x with
        | tmp t => exact (hslot t (.inl (usesT_mem hx))).symm
        | _ => rfl
      have hmask : ∀ k b, maskH s0 (stE ops s0 m res (preN i)) A i k = some b → find (stE ops s0 m res ex).h k = some b := by
        intro k b hk
        unfold maskH at hk
        split at hk
        · cases hk
        split at hk
        · rename_i hlt'; rw [find_old hlt']; exact hk
        · rename_i hge
          split at hk
          · rename_i hc
            have hj : k - s0.k ∈ (A.getD i ([], [])).1 := by simpa using hc
            have hji := (f.anc _ hj).1
            have ek : k = s0.k + (k - s0.k) := by omega
            rw [ek] at hk ⊢
            rw [find_new h0 _ (mem_preN.2 hji)] at hk
            rw [find_new h0 _ (hanc _ hj)]; exact hk
          · cases hk
      -- behind it
      have hgo : ∀ a' w' β', StR C (putA (addB (stE ops s0 m res ex) (s0.k + i) (res i).2) o.dst (res i).1) β' a' w' → (∀ q, q ≠ s0.k + i → β' q = β q) → wpAnyIn (wd ro) 0 C.P .any ops Q n (listed.setIfInBounds i true) a' w' := by
        intro a' w' β' hst' hβ'
        refine ih (i :: ex) _ β' a' w' (by simp; omega) (List.nodup_cons.2 ⟨hnex, hnd⟩) (fun j hj => ?_) (fun j hj o' ho' p hp => ?_) (by simp [hls]) (fun q hq => ?_) (fun j hj hjn => ?_) (by simp only [stE, hdst]; exact hst')
        · rcases List.mem_cons.1 hj with rfl | hj
          · exact him
          · exact hlt j hj
        · rcases List.mem_cons.1 hj with rfl | hj
          · rw [ho] at ho'; cases ho'; exact List.mem_cons_of_mem _ (hpre p hp)
          · exact List.mem_cons_of_mem _ (hcl j hj o' ho' p hp)
        · by_cases hqi : i = q
          · subst hqi; simp [Array.getD, hls, hq]
          · have e1 : (listed.setIfInBounds i true).getD q true = listed.getD q true := getD_set_ne true hqi
            rw [e1, hl q hq]
            congr 1
            exact propext ⟨fun h => List.mem_cons_of_mem _ h, fun h => (List.mem_cons.1 h).resolve_left (fun e => hqi e.symm)⟩
        · have h1 : j ≠ i := fun e => hjn (e ▸ List.mem_cons_self)
          rw [hβ' _ (by omega)]
          exact hβ j hj (fun h => hjn (List.mem_cons_of_mem _ h))
      have hstep : qopK C.P (evA (stE ops s0 m res (preN i)).t) (maskH s0 (stE ops s0 m res (preN i)) A i) o (s0.k + i) (fun x y => x = (res i).1 ∧ y = (res i).2) → o.wpIn (wd ro) 0 C.P a w (wpAnyIn (wd ro) 0 C.P .any ops Q n (listed.setIfInBounds i true)) Q := by
        intro hq
        refine qop_step hst (H := find (stE ops s0 m res ex).h) (fun _ _ h => h) (hβ i him hnex) (fun p hp => ?_) (by rw [(stE_n _).2]; omega) (qopK_more hops hmask hq) hgo
        rcases stE_names h0 hp with h' | ⟨q, hq', he'⟩
        · omega
        · have : q ≠ i := fun e => hnex (e ▸ hq')
          omega
      have hev := hres i o him ho
      unfold wpOpIn
      simp only [ho]
      unfold EvO at hev
      split at hev
      · rename_i hg
        rw [if_pos (by simp [Region.wanted, hg])]
        exact hstep hev
      · rename_i g hg
        obtain ⟨b, want, hgd, hyes, hno⟩ := hev
        obtain ⟨j, want'⟩ := g
        have hgj := f.guard him j want' hg
        have hwanted : Region.wanted o (yielded ops a.tmps) = decide (b = want) := by
          unfold guardA at hgd
          rw [hg] at hgd
          simp only at hgd
          split at hgd
          case h_2 => cases hgd
          rename_i d hd
          split at hgd
          case h_3 => cases hgd
          case h_2 =>
            rename_i hb'
            simp only [Option.some.injEq, Prod.mk.injEq] at hgd
            obtain ⟨rfl, rfl⟩ := hgd
            simp only [Region.wanted, hg, yielded, hd, Option.bind_some]
            have hx := hst.tm d
            rw [hslot d (.inr ⟨j, hgj.2, hd⟩), hb'] at hx
            generalize hv : a.tmps.getD d undef = va at hx
            cases hx
            exact wanted_undef hv want'
          rename_i b' hb'
          simp only [Option.some.injEq, Prod.mk.injEq] at hgd
          obtain ⟨rfl, rfl⟩ := hgd
          simp only [Region.wanted, hg, yielded, hd, Option.bind_some]
          have hx := hst.tm d
          rw [hslot d (.inr ⟨j, hgj.2, hd⟩), hb'] at hx
          have hu : a.tmps[d]? = some (.bool b') := by
            generalize hv : a.tmps.getD d undef = va at hx
            cases hx
            cases hq : a.tmps[d]? with
            | none =>
              rw [Array.getD_eq_getD_getElem?, hq] at hv
              cases hv
            | some y =>
              rw [Array.getD_eq_getD_getElem?, hq] at hv
              simp only [Option.getD_some] at hv
              rw [hv]
          rw [hu]
          cases b' <;> cases want' <;> rfl
        rw [hwanted]
        by_cases hbw : b = want
        · simp only [hbw, decide_true, if_true]
          exact hstep (hyes hbw)
        · simp only [hbw, decide_false, Bool.false_eq_true, if_false]
          have hr := hno hbw
          refine ⟨fun _ _ => trivial, hgo _ _ β ?_ (fun _ _ => rfl)⟩
          rw [hr]
          exact hst.put (.v _) o.dst

/-- What comes behind a drawn region: shut, so that it is looked at only where the state is known. -/
def DrawK (rec : List It → (AState → Prop) → AState → Prop) (l : List Oper) (ops : Array Oper) (k : List It) (Q : AState → Prop) (s' : AState) : Prop := rec (.o l ops :: k) Q s'
/-- **THE RULE**: a region that draws its order, its first m operations walked in the text's order, the rest (which wait for all before them) by the run. -/
theorem AtCode.drawG {P : Program} {rec : List It → (AState → Prop) → AState → Prop} {id : Nat} {ops : Array Oper} {k : List It} {Q : AState → Prop} {s : AState} (F : AState → Prop) (m : Nat) (A : List (List Nat × List Nat)) (hok : drawWk ops m A = true)
    (hF : ∀ (ro : Option Nat) (Cs : Ctx → Prop) (Fin : Act → World → Prop), GoodC P ro Cs → Snd P rec → (∀ s a w, Q s → Stc Cs s a w → Fin a w) → ∀ s' a w, F s' → Stc Cs s' a w → ∀ (n : Nat) (listed : Array Bool), m + n = ops.size → listed.size = ops.size →
      (∀ i, i < ops.size → listed.getD i true = decide (i < m)) → wpAnyIn (wd ro) 0 P .any ops (kpost Fin (Kont P Cs ro Fin k)) n listed a w)
    (h : vcQ P A ops s F (ops.toList.take m) 0 { s with k := s.k + m }) : AtCode P rec (.region id ops true) k Q s := by
  intro ro Cs Fin hg hm hrec hQ a w hs
  obtain ⟨C, hC, β, hst⟩ := hs
  have hP := hg.prog C hC
  refine wpIn_region_any hm ?_
  have hms := drawOk_m hok
  have hlen : (ops.toList.take m).length = m := by simp; omega
  obtain ⟨res, h1, h2, h3⟩ := vcQ_res (A := A) (ops := ops) (s0 := s) (m := m) (ops.toList.take m) 0 (fun _ => (.unk, none)) (fun q hq => by
    rw [hlen] at hq
    rw [List.getElem?_take_of_lt hq, Nat.zero_add, Array.getElem?_toList]) h
  rw [hlen, Nat.zero_add] at h3
  have hst0 : StR C (stE ops s m res []) β a { w with drawn := w.drawn + 1 } := by
    have hsame := hst.same (w' := { w with drawn := w.drawn + 1 }) rfl rfl rfl rfl
    refine ⟨hsame.defers, hsame.size, hsame.tm, hsame.own, fun p hp => ?_, fun q r hr => ?_, hsame.nd, hsame.inj, hsame.mine, hsame.fr, hsame.Flt, hsame.sv, hsame.yy⟩
    · have := hsame.lt p hp; simp only [stE]; omega
    · have := hsame.βlt q r hr; simp only [stE]; omega
  refine draw_any hP hok hst.lt hst.nd (fun i o hi ho => by have := h2 i o (by rw [hlen]; exact hi) (by simpa using ho); simpa using this) (fun a' w' hst' n listed h4 h5 h6 => ?_) ops.size [] _ β a _ (by simp) List.nodup_nil (by simp) (by simp) (by simp) (fun i hi => by simp [Array.getD, hi]) (fun j hj _ => ?_) hst0
  · exact hF ro Cs Fin hg hrec hQ _ a' w' h3 ⟨C, hC, hst'⟩ n listed h4 h5 h6
  · cases hb : β (s.k + j) with
    | none => rfl
    | some r => exact absurd (hst.βlt _ _ hb) (by omega)


theorem AtCode.draw {P : Program} {rec : List It → (AState → Prop) → AState → Prop} {id : Nat} {ops : Array Oper} {k : List It} {Q : AState → Prop} {s : AState} (m : Nat) (A : List (List Nat × List Nat)) (hok : drawOk ops m A = true)
    (h : vcQ P A ops s (DrawK rec (ops.toList.drop m) ops k Q) (ops.toList.take m) 0 { s with k := s.k + m }) : AtCode P rec (.region id ops true) k Q s := by
  unfold drawOk at hok
  simp only [Bool.and_eq_true] at hok
  refine AtCode.drawG _ m A hok.1 (fun ro Cs Fin hg hrec hQ s' a w hs' hst n listed h4 h5 h6 => ?_) h
  have := hrec ro Cs Fin Q hg hQ _ _ a w hs' hst
  exact tail_any hok.1 hok.2 n m (Nat.le_refl m) h4 listed a w h6 h5 this

/-- The orders: which may come next, and then. -/
inductive TT where
  | leaf
  | step (i : Nat) (t : TT)
  | both (a b : TT)
def idR (_ : List It) (Q : AState → Prop) (s : AState) : Prop := Q s
end Go.Eng
