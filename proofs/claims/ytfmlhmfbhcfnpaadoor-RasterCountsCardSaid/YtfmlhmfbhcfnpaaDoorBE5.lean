/- The engine of these proofs, part 5: how a function's text is run over abstract values, and why that is right. Conditions: none (a library text). -/
import Derived.Test.YtfmlhmfbhcfnpaaDoorBE4
import Derived.IntWalk
set_option linter.unusedSimpArgs false
set_option linter.unusedVariables false
namespace Go.Eng
open Go Go.RowKit

/-- What a round goes on with: shut, so that it is looked at only where the state is known. -/
def RfEnd (n : Nat) (S s2 : AState) : Prop := Le (hid n s2) S
def RfQ (n : Nat) (y : Option Yl) (Q : AState → Prop) (s2 : AState) : Prop := s2.x.sv ≠ [] ∧ Q (rest n y s2)
def RfBody (rec : List It → (AState → Prop) → AState → Prop) (body : Code) (n : Nat) (S : AState) (y : Option Yl) (Q : AState → Prop) (s1 : AState) : Prop := rec [.c body, .lp (RfEnd n S)] (RfQ n y Q) s1
theorem RfEnd_eq (n n' k : Nat) (t : Nat → AV) (h : List (Nat × Blk)) (x : Aux) (S : AState) : RfEnd n S ⟨n', t, h, k, x⟩ = Le (hid n ⟨n', t, h, k, x⟩) S := rfl
theorem RfQ_eq (n n' k : Nat) (t : Nat → AV) (h : List (Nat × Blk)) (f : Nat → AV) (sv : List (Nat → AV)) (y y' : Option Yl) (Q : AState → Prop) : RfQ n y Q ⟨n', t, h, k, ⟨f :: sv, y'⟩⟩ = Q ⟨n, f, h, k, ⟨sv, y⟩⟩ := by
  simp [RfQ, rest]
theorem RfBody_eq (rec : List It → (AState → Prop) → AState → Prop) (body : Code) (n : Nat) (S : AState) (y : Option Yl) (Q : AState → Prop) (n' k : Nat) (t : Nat → AV) (h : List (Nat × Blk)) (x : Aux) :
    RfBody rec body n S y Q ⟨n', t, h, k, x⟩ = rec [.c body, .lp (RfEnd n S)] (RfQ n y Q) ⟨n', t, h, k, x⟩ := rfl
/-- The range over a function, with slots named. -/
theorem AtCode.rangeF {P : Program} {rec : List It → (AState → Prop) → AState → Prop} {g : Operand} {ps : Array Tmp} {assign body : Code} {k : List It} {Q : AState → Prop} {n : Nat} {t : Nat → AV} {h : List (Nat × Blk)} {kk : Nat} {sv : List (Nat → AV)}
    {y : Option Yl} (gf : Nat) (caps' : List AV) (xs : List (List AV)) (ns : List Nat)
    (L : Nat → List (Nat × AV)) (LS : Nat → List (List (Nat × AV))) (iH : Nat → List (Nat × Blk)) (iK : Nat → Nat) (r : List (Nat × Nat))
    (hgf : frzA (find h) 3 (evA t g) = .fn gf caps') (hns : namesA (find h) 3 (evA t g) = ns) (hcl : ∀ x ∈ caps', Cl x) (hseq : ISeq P gf caps' xs) (hps : ∀ bs ∈ xs, bs.length = ps.size) (hpn : ps.toList.all (fun p => decide (p < n)) = true)
    (ha : ∀ p ∈ L 0, Ren (sg r) ((iH 0).map (·.1)) (t p.1) p.2)
    (hb : ∀ p ∈ iH 0, (∃ b, find (dropN ns h) (sg r p.1) = some b ∧ b.e = p.2.e ∧ RenL (sg r) ((iH 0).map (·.1)) b.l p.2.l) ∨ (p.2.l = [] ∧ kk ≤ sg r p.1)) (hlt : ∀ p ∈ iH 0, p.1 < iK 0) (hnd : ((iH 0).map fun p => sg r p.1).Nodup)
    (hsv : RenLs (sg r) ((iH 0).map (·.1)) sv (LS 0))
    (hr : ∀ i bs, xs[i]? = some bs → rec [.c assign, .lp (RfBody rec body n ⟨n, fun _ => .unk, iH (i + 1), iK (i + 1), ⟨tl (L (i + 1)) :: (LS (i + 1)).map tl, none⟩⟩ y Q)] (fun _ => False)
      ⟨n, updL (tl (L i)) ps.toList bs, iH i, iK i, ⟨tl (L i) :: (LS i).map tl, none⟩⟩)
    (hk : rec k Q ⟨n, tl (L xs.length), iH xs.length, iK xs.length, ⟨(LS xs.length).map tl, y⟩⟩) (hnm : ∀ b l, y ≠ some (.mp (some (b, l))) := by simp) : AtCode P rec (.rangeFunc g ps assign body) k Q ⟨n, t, h, kk, ⟨sv, y⟩⟩ := by
  refine AtCode.range' (s := ⟨n, t, h, kk, ⟨sv, y⟩⟩) (fun i => tl (L i)) (fun i => (LS i).map tl) iH iK hgf hns hcl hseq hps (fun p hp => ?_) ?_ hr hk hnm
  · have := List.all_eq_true.1 hpn p hp
    simpa using this
  · exact Le.tl0 (sv := t :: sv) (Ls := L 0 :: LS 0) (L := []) r (by simp) hb hlt hnd ⟨ha, hsv⟩

/-- The end of a round. -/
theorem Le.hid {n n' k k' : Nat} {t : Nat → AV} {h h' : List (Nat × Blk)} {f : Nat → AV} {sv : List (Nat → AV)} {L : List (Nat × AV)} {Ls : List (List (Nat × AV))} (r : List (Nat × Nat))
    (ha : ∀ p ∈ L, Ren (sg r) (h'.map (·.1)) (f p.1) p.2)
    (hh : ∀ p ∈ h', (∃ b, find h (sg r p.1) = some b ∧ b.e = p.2.e ∧ RenL (sg r) (h'.map (·.1)) b.l p.2.l) ∨ (p.2.l = [] ∧ k ≤ sg r p.1)) (hlt : ∀ p ∈ h', p.1 < k') (hnd : (h'.map fun p => sg r p.1).Nodup) (hsv : RenLs (sg r) (h'.map (·.1)) sv Ls) :
    Le (hid n ⟨n', t, h, k, ⟨f :: sv, none⟩⟩) ⟨n, fun _ => .unk, h', k', ⟨Eng.tl L :: Ls.map Eng.tl, none⟩⟩ :=
  Le.tl0 (sv := f :: sv) (Ls := L :: Ls) (L := []) r (by simp) hh hlt hnd ⟨ha, hsv⟩
theorem takeA_self {n : Nat} {l : List (List AV)} (h : n = l.length) : takeA 0 n l = l := by subst h; simp [takeA]
theorem takeA_tk (n : Nat) (l : List (List AV)) : takeA 0 n l = l.take n := by
  unfold takeA
  split
  · rename_i h; rw [h.2]; simp
  · simp
theorem takeA_00 (l : List (List AV)) : takeA 0 0 l = [] := by simp [takeA_tk]
theorem takeA_s (n : Nat) (x : List AV) (l : List (List AV)) : takeA 0 (n + 1) (x :: l) = x :: takeA 0 n l := by simp [takeA_tk]
theorem snoc_map {α : Type} {l : List α} {i : Nat} {p : α} (h : l[i]? = some p) (f : α → List AV) : (l.take i).map f ++ [f p] = (l.take (i + 1)).map f := by
  rw [List.take_add_one, h]; simp
theorem lt_get {α : Type} {l : List α} {i : Nat} {p : α} (h : l[i]? = some p) : i < l.length := (List.getElem?_eq_some_iff.1 h).1
theorem renL_one {σ : Nat → Nat} {ns : List Nat} {a b : AV} (h : Ren σ ns a b) : RenL σ ns [[a]] [[b]] := by
  refine .inr ⟨rfl, fun i c c' hc hc' => ?_⟩
  match i with
  | 0 =>
    simp at hc hc'; subst hc; subst hc'
    refine ⟨rfl, fun j x y hx hy => ?_⟩
    match j with
    | 0 => simp at hx hy; subst hx; subst hy; exact h
    | j + 1 => simp at hx
  | i + 1 => simp at hc
theorem Cl.t2 {a b : AV} (ha : Cl a) (hb : Cl b) : Cl (.t [a, b]) := by simp [Cl_t, ha, hb]
theorem Cl.t3 {a b c : AV} (ha : Cl a) (hb : Cl b) (hc : Cl c) : Cl (.t [a, b, c]) := by simp [Cl_t, ha, hb, hc]
theorem renL_row {σ : Nat → Nat} {ns : List Nat} {l m : List AV} (hl : l.length = m.length) (h : ∀ (j : Nat) (a b : AV), l[j]? = some a → m[j]? = some b → Ren σ ns a b) : RenL σ ns [l] [m] := by
  refine .inr ⟨rfl, fun i c c' hc hc' => ?_⟩
  match i with
  | 0 => simp at hc hc'; subst hc; subst hc'; exact ⟨hl, h⟩
  | i + 1 => simp at hc
theorem updL_cons (t : Nat → AV) (p : Nat) (ps : List Nat) (a : AV) (l : List AV) : updL t (p :: ps) (a :: l) = updL (upd t p a) ps l := rfl
theorem updL_nil (t : Nat → AV) : updL t [] [] = t := rfl
theorem nil_eq : Aux.nil = ⟨[], none⟩ := rfl
end Go.Eng

set_option linter.unusedSimpArgs false
set_option linter.unusedVariables false
namespace Go.Eng
open Go Go.RowKit

def wr (x : Int) : Int := IntKind.i64.wrap x
theorem wrap_wr (x : Int) : IntKind.i64.wrap x = wr x := rfl
abbrev I (x : Int) : AV := .v (.int .i64 x)
abbrev Bo (x : Bool) : AV := .v (.bool x)
theorem wr_in {x : Int} (h1 : -9223372036854775808 ≤ x) (h2 : x ≤ 9223372036854775807) : wr x = x := IntWalk.i64_in x ⟨h1, h2⟩
theorem getD_some {α : Type} {l : List α} {i : Nat} (h : i < l.length) (d : α) : l[i]? = some (l.getD i d) := by simp [List.getD, h]
end Go.Eng

set_option linter.unusedSimpArgs false
set_option linter.unusedVariables false
namespace Go.Eng
open Go Go.RowKit

structure EqS (s s' : AState) : Prop where
  n : s.n = s'.n
  k : s.k = s'.k
  x : s.x = s'.x
  t : ∀ i, s.t i = s'.t i
  m : ∀ p, p ∈ s.h ↔ p ∈ s'.h
  nd : (s.h.map (·.1)).Nodup
  nd' : (s'.h.map (·.1)).Nodup

theorem find_iff {h : List (Nat × Blk)} (hnd : (h.map (·.1)).Nodup) (n : Nat) (b : Blk) : find h n = some b ↔ (n, b) ∈ h := by
  induction h with
  | nil => simp [find]
  | cons p r ih =>
    obtain ⟨m, c⟩ := p
    simp only [List.map_cons, List.nodup_cons] at hnd
    simp only [find, List.mem_cons, Prod.mk.injEq]
    by_cases hm : m = n
    · subst hm
      rw [if_pos rfl]
      constructor
      · intro e; exact .inl ⟨rfl, (Option.some.inj e).symm⟩
      · rintro (⟨_, e⟩ | h)
        · rw [e]
        · exact absurd (List.mem_map_of_mem h) hnd.1
    · rw [if_neg hm, ih hnd.2]
      constructor
      · exact .inr
      · rintro (⟨e, _⟩ | h)
        · exact absurd e.symm hm
        · exact h

theorem EqS.find {s s' : AState} (e : EqS s s') (n : Nat) : find s.h n = find s'.h n := by
  have : ∀ b, Eng.find s.h n = some b ↔ Eng.find s'.h n = some b := fun b => by rw [find_iff e.nd, find_iff e.nd', e.m]
  cases h : Eng.find s.h n with
  | some b => exact ((this b).1 h).symm
  | none =>
    cases h' : Eng.find s'.h n with
    | none => rfl
    | some b => rw [(this b).2 h'] at h; cases h

theorem EqS.stR {C : Ctx} {s s' : AState} {β : Bt} {a : Act} {w : World} (e : EqS s s') (h : StR C s' β a w) : StR C s β a w := by
  have := h.hmem (h' := s.h) (t' := s.t) e.m e.nd e.t
  obtain ⟨n, t, hh, k, x⟩ := s
  obtain ⟨n', t', hh', k', x'⟩ := s'
  have e1 := e.n; have e2 := e.k; have e3 := e.x
  simp only at e1 e2 e3 this
  subst e1; subst e2; subst e3
  exact this

theorem mem_setN_iff {h : List (Nat × Blk)} (n : Nat) (k : Blk) (p : Nat × Blk) : p ∈ setN h n k ↔ (p ∈ h ∧ p.1 ≠ n) ∨ (p = (n, k) ∧ ∃ q ∈ h, q.1 = n) := by
  unfold setN
  rw [List.mem_map]
  constructor
  · rintro ⟨q, hq, rfl⟩
    by_cases hn : q.1 = n
    · rw [if_pos hn]; exact .inr ⟨rfl, q, hq, hn⟩
    · rw [if_neg hn]; exact .inl ⟨hq, hn⟩
  · rintro (⟨hp, hn⟩ | ⟨rfl, q, hq, hn⟩)
    · exact ⟨p, hp, by rw [if_neg hn]⟩
    · exact ⟨q, hq, by rw [if_pos hn]⟩

theorem EqS.set {s s' : AState} (e : EqS s s') (n : Nat) (k : Blk) : EqS { s with h := setN s.h n k } { s' with h := setN s'.h n k } :=
  ⟨e.n, e.k, e.x, e.t, fun p => by simp only [mem_setN_iff, e.m], by simp only [setN_names]; exact e.nd, by simp only [setN_names]; exact e.nd'⟩

theorem EqS.put {s s' : AState} (e : EqS s s') (d : Option Nat) (v : AV) : EqS (putA s d v) (putA s' d v) := by
  refine ⟨by rw [(putA_h _ _ _).2.1, (putA_h _ _ _).2.1]; exact e.n, by rw [(putA_h _ _ _).2.2, (putA_h _ _ _).2.2]; exact e.k, by rw [putA_x, putA_x]; exact e.x, fun i => by rw [putA_get, putA_get, e.n, e.t], ?_, ?_, ?_⟩
  · rw [(putA_h _ _ _).1, (putA_h _ _ _).1]; exact e.m
  · rw [(putA_h _ _ _).1]; exact e.nd
  · rw [(putA_h _ _ _).1]; exact e.nd'

theorem dropN_nodup {h : List (Nat × Blk)} (ns : List Nat) (hnd : (h.map (·.1)).Nodup) : ((dropN ns h).map (·.1)).Nodup :=
  List.Nodup.sublist (List.Sublist.map _ List.filter_sublist) hnd
theorem EqS.drop {s s' : AState} (e : EqS s s') (ns : List Nat) : EqS { s with h := dropN ns s.h } { s' with h := dropN ns s'.h } :=
  ⟨e.n, e.k, e.x, e.t, fun p => by simp only [mem_dropN, e.m], dropN_nodup ns e.nd, dropN_nodup ns e.nd'⟩
theorem EqS.push {s s' : AState} (e : EqS s s') (hlt : ∀ p ∈ s'.h, p.1 < s'.k) (b : Blk) : EqS (pushA s b) (pushA s' b) := by
  have hlt' : ∀ p ∈ s.h, p.1 < s.k := fun p hp => by rw [e.k]; exact hlt p ((e.m p).1 hp)
  refine ⟨e.n, by simp only [pushA, e.k], e.x, e.t, fun p => by simp only [pushA, List.mem_cons, e.m, e.k], ?_, ?_⟩
  · simp only [pushA, List.map_cons, List.nodup_cons]
    refine ⟨fun hm => ?_, e.nd⟩
    obtain ⟨p, hp, he⟩ := List.mem_map.1 hm
    have := hlt' p hp; omega
  · simp only [pushA, List.map_cons, List.nodup_cons]
    refine ⟨fun hm => ?_, e.nd'⟩
    obtain ⟨p, hp, he⟩ := List.mem_map.1 hm
    have := hlt p hp; omega

section
variable (ops : Array Oper) (k0 : Nat) (b : AState) (res : Nat → AV × Option Blk)
def stF : List Nat → AState
  | [] => b
  | i :: r => putA (addB (stF r) (k0 + i) (res i).2) (dstOf ops i) (res i).1
end

section
variable {ops : Array Oper} {k0 m : Nat} {b b' : AState} {res res' : Nat → AV × Option Blk}

theorem stF_n : ∀ l, (stF ops k0 b res l).n = b.n ∧ (stF ops k0 b res l).k = b.k
  | [] => ⟨rfl, rfl⟩
  | i :: r => by
    obtain ⟨h1, h2⟩ := stF_n r
    simp only [stF, putA_h, addB_t]
    exact ⟨h1, h2⟩
theorem stF_x : ∀ l, (stF ops k0 b res l).x = b.x
  | [] => rfl
  | i :: r => by
    have h1 := stF_x r
    simp only [stF, putA_x, addB_x]
    exact h1
/-- The slots: by the answers alone. -/
theorem stF_t {t : Nat} (hn : b.n = b'.n) (ht : b.t t = b'.t t) (hr : ∀ i, (res i).1 = (res' i).1) : ∀ l, (stF ops k0 b res l).t t = (stF ops k0 b' res' l).t t
  | [] => ht
  | i :: r => by
    simp only [stF]
    rw [putA_get, putA_get, (addB_t _ _ _).2.1, (addB_t _ _ _).2.1, (stF_n r).1, (stF_n r).1, hn, hr, (addB_t _ _ _).1, (addB_t _ _ _).1, stF_t hn ht hr r]
theorem stF_old {t : Nat} : ∀ l, (∀ j ∈ l, dstOf ops j ≠ some t ∨ ¬ t < b.n) → (stF ops k0 b res l).t t = b.t t
  | [], _ => rfl
  | i :: r, h => by
    have hi := h i List.mem_cons_self
    simp only [stF]
    have hc : ¬ (dstOf ops i = some t ∧ t < b.n) := by
      rintro ⟨e1, e2⟩
      rcases hi with h1 | h1
      · exact h1 e1
      · exact h1 e2
    rw [putA_get, (addB_t _ _ _).2.1, (stF_n r).1, (addB_t _ _ _).1, stF_old r (fun j hj => h j (List.mem_cons_of_mem _ hj)), if_neg hc]
theorem stF_new {t i : Nat} (hd : dstOf ops i = some t) (ht : t < b.n) : ∀ l, i ∈ l → (∀ j ∈ l, j ≠ i → dstOf ops j ≠ some t) → (stF ops k0 b res l).t t = (res i).1
  | [], h, _ => by simp at h
  | j :: r, h, hu => by
    simp only [stF]
    rw [putA_get, (addB_t _ _ _).2.1, (stF_n r).1, (addB_t _ _ _).1]
    by_cases hji : j = i
    · subst hji; rw [if_pos ⟨hd, ht⟩]
    · have hc : ¬ (dstOf ops j = some t ∧ t < b.n) := fun e => hu j List.mem_cons_self hji e.1
      rw [if_neg hc]
      exact stF_new hd ht r ((List.mem_cons.1 h).resolve_left (Ne.symm hji)) (fun q hq => hu q (List.mem_cons_of_mem _ hq))
theorem stF_h : ∀ l, (stF ops k0 b res l).h = (l.filterMap fun i => (res i).2.map fun c => (k0 + i, c)) ++ b.h
  | [] => rfl
  | i :: r => by
    simp only [stF]
    rw [(putA_h _ _ _).1]
    cases hb : (res i).2 with
    | none => simp [addB, hb, stF_h r]
    | some c => simp [addB, hb, stF_h r]
theorem stF_hmem {l : List Nat} {p : Nat × Blk} : p ∈ (stF ops k0 b res l).h ↔ (∃ i ∈ l, ∃ c, (res i).2 = some c ∧ p = (k0 + i, c)) ∨ p ∈ b.h := by
  rw [stF_h, List.mem_append, List.mem_filterMap]
  constructor
  · rintro (⟨i, hi, he⟩ | hp)
    · rw [Option.map_eq_some_iff] at he
      obtain ⟨c, hc, e⟩ := he
      exact .inl ⟨i, hi, c, hc, e.symm⟩
    · exact .inr hp
  · rintro (⟨i, hi, c, hc, rfl⟩ | hp)
    · exact .inl ⟨i, hi, by rw [hc]; rfl⟩
    · exact .inr hp
/-- Where the names of the state's own blocks lie. -/
def Base (k0 m : Nat) (b : AState) : Prop := k0 + m ≤ b.k ∧ (∀ p ∈ b.h, p.1 < k0 ∨ (k0 + m ≤ p.1 ∧ p.1 < b.k)) ∧ (b.h.map (·.1)).Nodup
theorem stF_nd (h0 : Base k0 m b) : ∀ l : List Nat, l.Nodup → (∀ i ∈ l, i < m) → ((stF ops k0 b res l).h.map (·.1)).Nodup := by
  intro l
  rw [stF_h]
  induction l with
  | nil => intro _ _; simpa using h0.2.2
  | cons i r ih =>
    intro hl hlt
    obtain ⟨h1, h2⟩ := List.nodup_cons.1 hl
    have hr : ∀ j ∈ r, j < m := fun j hj => hlt j (List.mem_cons_of_mem _ hj)
    cases hb : (res i).2 with
    | none => simp only [List.filterMap_cons, hb, Option.map_none]; exact ih h2 hr
    | some c =>
      simp only [List.filterMap_cons, hb, Option.map_some, List.cons_append, List.map_cons, List.nodup_cons]
      refine ⟨fun hm => ?_, ih h2 hr⟩
      obtain ⟨p, hp, he⟩ := List.mem_map.1 hm
      rw [List.mem_append] at hp
      rcases hp with hp | hp
      · simp only [List.mem_filterMap, Option.map_eq_some_iff] at hp
        obtain ⟨q, hq, c', _, rfl⟩ := hp
        simp only at he
        have : q = i := by omega
        exact h1 (this ▸ hq)
      · have := h0.2.1 p hp
        have := hlt i List.mem_cons_self
        omega
theorem findF_old {n : Nat} (l : List Nat) (hn : ∀ i ∈ l, k0 + i ≠ n) : find (stF ops k0 b res l).h n = find b.h n := by
  rw [stF_h]
  refine find_app _ _ _ fun p hp => ?_
  simp only [List.mem_filterMap, Option.map_eq_some_iff] at hp
  obtain ⟨i, hi, c, _, rfl⟩ := hp
  exact hn i hi
theorem findF_new (h0 : Base k0 m b) {j : Nat} (hj : j < m) : ∀ (l : List Nat), j ∈ l → find (stF ops k0 b res l).h (k0 + j) = (res j).2 := by
  intro l
  rw [stF_h]
  induction l with
  | nil => intro h; simp at h
  | cons i r ih =>
    intro h
    by_cases hij : i = j
    · subst hij
      cases hb : (res i).2 with
      | some c => simp [hb, find]
      | none =>
        simp only [List.filterMap_cons, hb, Option.map_none]
        by_cases hr : i ∈ r
        · rw [ih hr, hb]
        · refine find_none _ _ fun p hp => ?_
          rw [List.mem_append] at hp
          rcases hp with hp | hp
          · simp only [List.mem_filterMap, Option.map_eq_some_iff] at hp
            obtain ⟨q, hq, c, _, rfl⟩ := hp
            simp only
            intro e
            have : q = i := by omega
            exact hr (this ▸ hq)
          · have := h0.2.1 p hp; omega
    · have hr : j ∈ r := (List.mem_cons.1 h).resolve_left (Ne.symm hij)
      cases hb : (res i).2 with
      | none => simp only [List.filterMap_cons, hb, Option.map_none]; exact ih hr
      | some c =>
        simp only [List.filterMap_cons, hb, Option.map_some, List.cons_append, find]
        rw [if_neg (by omega)]
        exact ih hr

/-- A block is written. -/
def resS (k0 n : Nat) (c : Blk) (res : Nat → AV × Option Blk) : Nat → AV × Option Blk := fun q => ((res q).1, if k0 + q = n then (res q).2.map fun _ => c else (res q).2)
theorem putA_with (s : AState) (d : Option Nat) (v : AV) (h : List (Nat × Blk)) : putA { s with h := h } d v = { putA s d v with h := h } := by
  cases d with
  | none => rfl
  | some d => simp only [putA]; split <;> rfl
theorem stF_set (n : Nat) (c : Blk) : ∀ l, stF ops k0 { b with h := setN b.h n c } (resS k0 n c res) l = { stF ops k0 b res l with h := setN (stF ops k0 b res l).h n c }
  | [] => rfl
  | i :: r => by
    simp only [stF]
    rw [stF_set n c r]
    have e1 : (resS k0 n c res i).1 = (res i).1 := rfl
    rw [e1]
    have hh := (putA_h (addB (stF ops k0 b res r) (k0 + i) (res i).2) (dstOf ops i) (res i).1).1
    rw [hh]
    cases hr : (res i).2 with
    | none =>
      have e2 : (resS k0 n c res i).2 = none := by simp [resS, hr]
      rw [e2]
      simp only [addB]
      exact putA_with _ _ _ _
    | some d =>
      have e2 : (resS k0 n c res i).2 = some (if k0 + i = n then c else d) := by simp only [resS, hr, Option.map_some]; split <;> rfl
      rw [e2]
      simp only [addB]
      rw [← putA_with]
      congr 1
      simp only [setN, List.map_cons]
      by_cases hn : k0 + i = n
      · simp [hn]
      · simp [hn]
/-- Blocks are used up. -/
def resD (k0 : Nat) (ns : List Nat) (res : Nat → AV × Option Blk) : Nat → AV × Option Blk := fun q => ((res q).1, if ns.contains (k0 + q) then none else (res q).2)
theorem stF_drop (ns : List Nat) : ∀ l, stF ops k0 { b with h := dropN ns b.h } (resD k0 ns res) l = { stF ops k0 b res l with h := dropN ns (stF ops k0 b res l).h }
  | [] => rfl
  | i :: r => by
    simp only [stF]
    rw [stF_drop ns r]
    have e1 : (resD k0 ns res i).1 = (res i).1 := rfl
    rw [e1]
    have hh := (putA_h (addB (stF ops k0 b res r) (k0 + i) (res i).2) (dstOf ops i) (res i).1).1
    rw [hh]
    cases hr : (res i).2 with
    | none =>
      have e2 : (resD k0 ns res i).2 = none := by simp [resD, hr]
      rw [e2]
      simp only [addB]
      exact putA_with _ _ _ _
    | some d =>
      simp only [addB]
      rw [dropN_cons]
      by_cases hn : ns.contains (k0 + i) = true
      · have e2 : (resD k0 ns res i).2 = none := by simp only [resD, if_pos hn]
        rw [e2, if_pos hn]
        rw [putA_with]
        have : putA { stF ops k0 b res r with h := (k0 + i, d) :: (stF ops k0 b res r).h } (dstOf ops i) (res i).1 = { putA (stF ops k0 b res r) (dstOf ops i) (res i).1 with h := (k0 + i, d) :: (stF ops k0 b res r).h } := putA_with _ _ _ _
        rw [this]
      · have e2 : (resD k0 ns res i).2 = some d := by simp only [resD, if_neg hn, hr]
        rw [e2, if_neg hn]
        simp only
        rw [← putA_with]
end

theorem stE_stF {ops : Array Oper} {s0 : AState} {m : Nat} {res : Nat → AV × Option Blk} : ∀ l, stE ops s0 m res l = stF ops s0.k { s0 with k := s0.k + m } res l
  | [] => rfl
  | i :: r => by simp only [stE, stF, stE_stF r]

/-- What an operation may look at. -/
def maskF (k0 m : Nat) (A : List (List Nat × List Nat)) (b s : AState) (i : Nat) : Nat → Option Blk :=
  fun k => if (A.getD i ([], [])).2.contains k then none else if k0 ≤ k ∧ k < k0 + m then (if (A.getD i ([], [])).1.contains (k - k0) then find s.h k else none) else find b.h k

def EvF (P : Program) (A : List (List Nat × List Nat)) (ops : Array Oper) (k0 m : Nat) (b : AState) (res : Nat → AV × Option Blk) (i : Nat) (o : Oper) : Prop :=
  match o.guard with
  | none => qopK P (evA (stF ops k0 b res (preN i)).t) (maskF k0 m A b (stF ops k0 b res (preN i)) i) o (k0 + i) (fun x y => x = (res i).1 ∧ y = (res i).2)
  | some _ => ∃ c want, guardA ops (stF ops k0 b res (preN i)).t o = some (c, want) ∧
      (c = want → qopK P (evA (stF ops k0 b res (preN i)).t) (maskF k0 m A b (stF ops k0 b res (preN i)) i) o (k0 + i) (fun x y => x = (res i).1 ∧ y = (res i).2)) ∧ (c ≠ want → res i = (un, none))

theorem EvO_F {P : Program} {A : List (List Nat × List Nat)} {ops : Array Oper} {s0 : AState} {m : Nat} {res : Nat → AV × Option Blk} {i : Nat} {o : Oper} (hlt : ∀ p ∈ s0.h, p.1 < s0.k) (hA : ∀ j ∈ (A.getD i ([], [])).1, j < m) (h : EvO P A ops s0 m res i o) :
    EvF P A ops s0.k m { s0 with k := s0.k + m } res i o := by
  have hm : ∀ s, maskH s0 s A i = maskF s0.k m A { s0 with k := s0.k + m } s i := by
    intro s
    funext k
    unfold maskH maskF
    by_cases h1 : (A.getD i ([], [])).2.contains k = true
    · rw [if_pos h1, if_pos h1]
    · rw [if_neg h1, if_neg h1]
      by_cases h2 : k < s0.k
      · rw [if_pos h2, if_neg (by omega)]
      · rw [if_neg h2]
        by_cases h3 : k < s0.k + m
        · have hc : s0.k ≤ k ∧ k < s0.k + m := ⟨by omega, h3⟩
          rw [if_pos hc]
        · have hc : ¬ (s0.k ≤ k ∧ k < s0.k + m) := fun h => h3 h.2
          have : (A.getD i ([], [])).1.contains (k - s0.k) = false := by
            cases hc : (A.getD i ([], [])).1.contains (k - s0.k) with
            | false => rfl
            | true => have := hA _ (List.contains_iff_mem.1 hc); omega
          rw [if_neg hc, this]
          simp only [Bool.false_eq_true, if_false]
          exact (find_none _ _ fun p hp => by have := hlt p hp; omega).symm
  unfold EvO at h
  unfold EvF
  simp only [stE_stF, hm] at h
  exact h
end Go.Eng

set_option linter.unusedSimpArgs false
set_option linter.unusedVariables false
namespace Go.Eng
open Go Go.RowKit

def uOk (m : Nat) (A : List (List Nat × List Nat)) (j n : Nat) : Bool := (List.range m).all fun i => (A.getD j ([], [])).1.contains i || (A.getD i ([], [])).2.contains n
def fullW (m : Nat) (A : List (List Nat × List Nat)) (j : Nat) : Bool := (List.range m).all fun i => (A.getD j ([], [])).1.contains i
def maskE (k0 m : Nat) (A : List (List Nat × List Nat)) (s : AState) (j : Nat) : Nat → Option Blk := fun k => if k0 ≤ k ∧ k < k0 + m then (if (A.getD j ([], [])).1.contains (k - k0) then find s.h k else none) else find s.h k

/-- The tail, in its order: what is written early is looked up with what is known to have come up. -/
def tailE (P : Program) (A : List (List Nat × List Nat)) (ops : Array Oper) (m k0 : Nat) (rec : List It → (AState → Prop) → AState → Prop) (k : List It) (Q : AState → Prop) : List Oper → Nat → AState → Prop
  | [], _, s => rec (.o [] ops :: k) Q s
  | o :: r, j, s =>
    if fullW m A j = true then opK P idR o [] (tailE P A ops m k0 rec k Q r (j + 1)) s
    else match o.op with
      | .store t p x => stK P (evA s.t) (maskE k0 m A s j) t p x fun n b => uOk m A j n = true ∧ tailE P A ops m k0 rec k Q r (j + 1) { s with h := setN s.h n b }
      | .call ⟨.builtin .append, xs, ts⟩ => apK P (evA s.t) (maskE k0 m A s j) xs.toList ts.toList fun ns z l => (∀ n ∈ ns, uOk m A j n = true) ∧ tailE P A ops m k0 rec k Q r (j + 1) (putA (pushA { s with h := dropN ns s.h } ⟨z, l⟩) o.dst (.sl s.k 0 l.length))
      | _ => False

def drawOneE (ops : Array Oper) (m : Nat) (A : List (List Nat × List Nat)) (i : Nat) (o : Oper) : Bool :=
  (predsO o).all (fun p => decide (p < i)) &&
  ((A.getD i ([], [])).1.all fun j => decide (j < i) && ((predsO o).contains j || (predsO o).any fun p => ((A.getD p ([], [])).1).contains j)) &&
  (decide (m ≤ i) ||
    (((List.range m).all fun j => j == i || (match dstOf ops j with
        | none => true
        | some d => (o.dst != some d) && (!(usesT o).contains d || (if j < i then (A.getD i ([], [])).1.contains j else ((A.getD j ([], [])).1).contains i)))) &&
     (match o.guard with | none => true | some (j, _) => decide (j < i) && (A.getD i ([], [])).1.contains j)))
def tailOneE (ops : Array Oper) (m : Nat) (A : List (List Nat × List Nat)) (j : Nat) (o : Oper) : Bool :=
  decide (j < m) || (o.guard.isNone && (List.range j).all (fun q => decide (q < m) || (predsO o).contains q || (A.getD j ([], [])).1.contains q) &&
    (fullW m A j || ((match o.op with | .store _ _ _ => o.dst.isNone | _ => true) && (List.range m).all fun i =>
      (match dstOf ops i with | none => true | some d => (o.dst != some d) && (!(usesT o).contains d || (A.getD j ([], [])).1.contains i)) &&
      (match o.dst, ops[i]? with | some d, some oi => !(usesT oi).contains d | _, _ => true))))
def drawEk (ops : Array Oper) (m : Nat) (A : List (List Nat × List Nat)) : Bool :=
  decide (m ≤ ops.size) && ((List.range ops.size).all fun i => match ops[i]? with | none => true | some o => drawOneE ops m A i o && tailOneE ops m A i o)

structure FactsE (ops : Array Oper) (m : Nat) (A : List (List Nat × List Nat)) (i : Nat) (o : Oper) : Prop where
  back : ∀ p ∈ predsO o, p < i
  anc : ∀ j ∈ (A.getD i ([], [])).1, j < i ∧ (j ∈ predsO o ∨ ∃ p ∈ predsO o, j ∈ (A.getD p ([], [])).1)
  other : i < m → ∀ j d, j < m → j ≠ i → dstOf ops j = some d → o.dst ≠ some d ∧ (d ∈ usesT o → if j < i then j ∈ (A.getD i ([], [])).1 else i ∈ (A.getD j ([], [])).1)
  guard : i < m → ∀ j want, o.guard = some (j, want) → j < i ∧ j ∈ (A.getD i ([], [])).1
  noguard : m ≤ i → o.guard = none
  order : m ≤ i → ∀ q, m ≤ q → q < i → q ∈ predsO o ∨ q ∈ (A.getD i ([], [])).1
  early : m ≤ i → fullW m A i = false → (∀ t p x, o.op = .store t p x → o.dst = none) ∧ ∀ q, q < m →
    (∀ d, dstOf ops q = some d → o.dst ≠ some d ∧ (d ∈ usesT o → q ∈ (A.getD i ([], [])).1)) ∧ (∀ d oq, o.dst = some d → ops[q]? = some oq → d ∉ usesT oq)

section
variable {ops : Array Oper} {m : Nat} {A : List (List Nat × List Nat)}
theorem drawEk_m (hok : drawEk ops m A = true) : m ≤ ops.size := by
  unfold drawEk at hok
  simp only [Bool.and_eq_true, decide_eq_true_eq] at hok
  exact hok.1
theorem factsE (hok : drawEk ops m A = true) {i : Nat} {o : Oper} (ho : ops[i]? = some o) : FactsE ops m A i o := by
  unfold drawEk at hok
  simp only [Bool.and_eq_true, List.all_eq_true, List.mem_range] at hok
  have hi : i < ops.size := (Array.getElem?_eq_some_iff.1 ho).1
  have := hok.2 i hi
  rw [ho] at this
  simp only [Bool.and_eq_true] at this
  obtain ⟨h, ht⟩ := this
  unfold drawOneE at h
  simp only [Bool.and_eq_true, Bool.or_eq_true, List.all_eq_true, decide_eq_true_eq, List.mem_range, List.contains_iff_mem, List.any_eq_true] at h
  obtain ⟨⟨h1, h4⟩, h3⟩ := h
  unfold tailOneE at ht
  simp only [Bool.and_eq_true, Bool.or_eq_true, List.all_eq_true, decide_eq_true_eq, List.mem_range, List.contains_iff_mem] at ht
  refine ⟨h1, fun j hj => h4 j hj, fun hi j d hj hji hd => ?_, fun hi j want hg => ?_, fun hi => ?_, fun hi q hq hqi => ?_, fun hi hf => ?_⟩
  · have := ((h3.resolve_left (by omega)).1) j hj
    rcases this with h' | h'
    · exact absurd (by simpa using h') hji
    · rw [hd] at h'
      simp only [Bool.and_eq_true, bne_iff_ne, ne_eq, Bool.or_eq_true, Bool.not_eq_true'] at h'
      refine ⟨h'.1, fun hu => ?_⟩
      rcases h'.2 with h4 | h4
      · have : (usesT o).contains d = true := by simpa using hu
        rw [this] at h4; cases h4
      · by_cases hlt : j < i
        · rw [if_pos hlt] at h4 ⊢; simpa using h4
        · rw [if_neg hlt] at h4 ⊢; simpa using h4
  · have := (h3.resolve_left (by omega)).2
    rw [hg] at this
    simpa using this
  · have := (ht.resolve_left (by omega)).1.1
    simpa using this
  · have := (ht.resolve_left (by omega)).1.2 q hqi
    rcases this with (h | h) | h
    · omega
    · exact .inl h
    · exact .inr h
  · have := (ht.resolve_left (by omega)).2.resolve_left (by rw [hf]; simp)
    refine ⟨fun t p x he => ?_, fun q hq => ⟨fun d hd => ?_, fun d oq hd hoq => ?_⟩⟩
    · have := this.1
      rw [he] at this
      simpa using this
    · have := (this.2 q hq).1
      rw [hd] at this
      simp only [Bool.and_eq_true, bne_iff_ne, ne_eq, Bool.or_eq_true, Bool.not_eq_true', List.contains_iff_mem] at this
      refine ⟨this.1, fun hu => ?_⟩
      rcases this.2 with h5 | h5
      · have : (usesT o).contains d = true := by simpa using hu
        rw [this] at h5; cases h5
      · exact h5
    · have := (this.2 q hq).2
      rw [hd, hoq] at this
      simpa using this
theorem ancE (hok : drawEk ops m A = true) {Ex : Nat → Prop} (hcl : ∀ i, Ex i → ∀ o, ops[i]? = some o → ∀ p ∈ predsO o, Ex p) : ∀ i o, ops[i]? = some o → (∀ p ∈ predsO o, Ex p) → ∀ j ∈ (A.getD i ([], [])).1, Ex j := by
  intro i
  induction i using Nat.strongRecOn with
  | _ i ih =>
    intro o ho hp j hj
    have f := factsE hok ho
    obtain ⟨hji, hj'⟩ := f.anc j hj
    rcases hj' with h | ⟨p, hpp, hjp⟩
    · exact hp j h
    · have hpi := f.back p hpp
      have hps : p < ops.size := by have := (Array.getElem?_eq_some_iff.1 ho).1; omega
      exact ih p hpi ops[p] (Array.getElem?_eq_getElem hps) (hcl p (hp p hpp) ops[p] (Array.getElem?_eq_getElem hps)) j hjp
theorem fullW_mem {j : Nat} (h : fullW m A j = true) : ∀ i, i < m → i ∈ (A.getD j ([], [])).1 := by
  unfold fullW at h
  simp only [List.all_eq_true, List.mem_range, List.contains_iff_mem] at h
  exact h
end

theorem stK_more {P : Program} {ρ ρ' : Operand → AV} {H H' : Nat → Option Blk} {t : TypeId} {p x : Operand} {K K' : Nat → Blk → Prop} (hp : ρ p = ρ' p) (hx : ρ x = ρ' x) (hH : ∀ n b, H n = some b → H' n = some b)
    (hK : ∀ n b, K n b → K' n b) (h : stK P ρ H t p x K) : stK P ρ' H' t p x K' := by
  unfold stK at *
  rw [← hp, ← hx]
  split at h
  · split at h
    · rename_i k hk; rw [hH _ _ hk]; obtain ⟨ch, h1, h2, h3⟩ := h; exact ⟨ch, h1, h2, hK _ _ h3⟩
    · exact h.elim
  · exact h.elim

section
variable {P : Program} {A : List (List Nat × List Nat)} {ops : Array Oper} {m k0 : Nat} {rec : List It → (AState → Prop) → AState → Prop} {k : List It} {Q : AState → Prop}

theorem maskE_find {s : AState} {j n : Nat} {b : Blk} (h : maskE k0 m A s j n = some b) : find s.h n = some b := by
  unfold maskE at h
  split at h
  · split at h
    · exact h
    · cases h
  · exact h

theorem tailE_opK {o : Oper} {r : List Oper} {j : Nat} {s : AState} (hd : fullW m A j = false → ∀ t p x, o.op = .store t p x → o.dst = none) (h : tailE P A ops m k0 rec k Q (o :: r) j s) :
    opK P idR o [] (tailE P A ops m k0 rec k Q r (j + 1)) s := by
  unfold tailE at h
  split at h
  · exact h
  · rename_i hf
    have hf' : fullW m A j = false := by simpa using hf
    split at h
    · rename_i t p x ho
      have hdst := hd hf' t p x ho
      unfold opK
      rw [ho]
      simp only
      refine stK_more rfl rfl (fun _ _ => maskE_find) (fun n b hk => ?_) h
      rw [hdst]; exact hk.2
    · rename_i xs ts ho
      unfold opK
      rw [ho]
      simp only
      have h2 := apK_mono (fun ns z l hk => hk.2) (apK_more (fun _ _ => rfl) (fun _ _ => maskE_find) h)
      split
      · exact AtOp.app ho h2
      · exact h2
    · exact h.elim

theorem wanted_none {o : Oper} (h : o.guard = none) (y : Nat → Option Bool) : Region.wanted o y = true := by simp [Region.wanted, h]

/-- All that is only looked at has come up: the tail comes in its order. -/
theorem tailE_full {ro : Option Nat} {Cs : Ctx → Prop} {Fin : Act → World → Prop} (hg : GoodC P ro Cs) (hrec : Snd P rec) (hQ : ∀ s a w, Q s → Stc Cs s a w → Fin a w) (hok : drawEk ops m A = true) :
    ∀ (r : List Oper) (j : Nat) (listed : Array Bool) (s : AState) (a : Act) (w : World), r = ops.toList.drop j → m ≤ j → j ≤ ops.size → listed.size = ops.size → (∀ i, i < ops.size → listed.getD i true = decide (i < j)) →
      tailE P A ops m k0 rec k Q r j s → Stc Cs s a w → wpAnyIn (wd ro) 0 P .any ops (kpost Fin (Kont P Cs ro Fin k)) r.length listed a w := by
  intro r
  induction r with
  | nil =>
    intro j listed s a w hr hmj hjs hls hl h hst
    have hj : j = ops.size := by have := congrArg List.length hr; simp at this; omega
    refine ⟨?_, by have := hrec ro Cs Fin Q hg hQ (.o [] ops :: k) s a w h hst; exact this⟩
    rw [List.eq_nil_iff_forall_not_mem]
    intro i hi
    obtain ⟨h1, o, ho, _⟩ := mem_ready.1 hi
    have hlt := (Array.getElem?_eq_some_iff.1 ho).1
    rw [hl i hlt] at h1
    simp at h1; omega
  | cons o r ih =>
    intro j listed s a w hr hmj hjs hls hl h hst
    have hjlt : j < ops.size := by have := congrArg List.length hr; simp at this; omega
    have hd' : ops.toList.drop j = ops[j] :: ops.toList.drop (j + 1) := by
      rw [List.drop_eq_getElem_cons (by simpa using hjlt)]; simp
    rw [hd'] at hr
    obtain ⟨rfl, rfl⟩ := List.cons.inj hr
    have hoj : ops[j]? = some ops[j] := Array.getElem?_eq_getElem hjlt
    have f := factsE hok hoj
    have hdg : ∀ q, q < ops.size → listed.getD q false = listed.getD q true := fun q hq => by simp [Array.getD, hls, hq]
    have hready : ∀ i, i ∈ Region.ready .any ops listed ↔ i = j := by
      intro i
      constructor
      · intro hi
        obtain ⟨h1, oi, hoi, he⟩ := mem_ready.1 hi
        have hlt := (Array.getElem?_eq_some_iff.1 hoi).1
        rw [hl i hlt] at h1
        have hji : j ≤ i := by simpa using h1
        rcases Nat.lt_or_eq_of_le hji with hlt' | rfl
        · have fi := factsE hok hoi
          have hpl : ∀ p ∈ predsO oi, p < j := fun p hp => by
            obtain ⟨e, he1, he2, he3⟩ := mem_predsO.1 hp
            have := he e he1 he2
            rw [he3] at this
            have hpi := fi.back p hp
            rw [hdg p (by omega), hl p (by omega)] at this
            simpa using this
          rcases fi.order (by omega) j hmj hlt' with hp | hp
          · have := hpl j hp; omega
          · have := ancE hok (Ex := fun q => q < j) (fun q hq oq hoq p hp => by have := (factsE hok hoq).back p hp; omega) i oi hoi hpl j hp
            omega
        · rfl
      · rintro rfl
        refine mem_ready.2 ⟨by rw [hl i hjlt]; simp, _, hoj, fun e he hb => ?_⟩
        have hp := f.back e.on (mem_predsO.2 ⟨e, he, hb, rfl⟩)
        rw [hdg _ (by omega), hl _ (by omega)]
        simpa using hp
    refine ⟨fun hnil => ?_, fun i hi => ?_⟩
    · have := (hready j).2 rfl
      rw [hnil] at this; cases this
    · obtain rfl := (hready i).1 hi
      unfold wpOpIn
      simp only [hoj]
      rw [if_pos (wanted_none (f.noguard hmj) _)]
      have hop := tailE_opK (fun hf => (f.early hmj hf).1) h
      refine opK_sound hg hst hop fun s' a' w' hrec' hst' => ?_
      refine ih (i + 1) _ s' a' w' rfl (by omega) (by omega) (by simp [hls]) (fun q hq => ?_) hrec' hst'
      by_cases hqi : i = q
      · subst hqi; simp [Array.getD, hls, hq]
      · have e1 : (listed.setIfInBounds i true).getD q true = listed.getD q true := getD_set_ne true hqi
        rw [e1, hl q hq]
        simp; omega
end
end Go.Eng

set_option linter.unusedSimpArgs false
set_option linter.unusedVariables false
namespace Go.Eng
open Go Go.RowKit

section
variable {P : Program} {A : List (List Nat × List Nat)} {ops : Array Oper} {m k0 : Nat} {rec : List It → (AState → Prop) → AState → Prop} {k : List It} {Q : AState → Prop}

theorem uniqE (hok : drawEk ops m A = true) {i j t : Nat} (hi : i < m) (hj : j < m) (hij : j ≠ i) (hd : dstOf ops i = some t) : dstOf ops j ≠ some t := by
  intro hdj
  have his : i < ops.size := Nat.lt_of_lt_of_le hi (drawEk_m hok)
  have f := factsE hok (Array.getElem?_eq_getElem his)
  refine (f.other hi j t hj hij hdj).1 ?_
  simpa [dstOf, his] using hd

theorem stF_perm (hok : drawEk ops m A = true) {b : AState} {res : Nat → AV × Option Blk} (hb : Base k0 m b) {l l' : List Nat} (hm : ∀ i, i ∈ l ↔ i ∈ l') (hn : l.Nodup) (hn' : l'.Nodup) (hlt : ∀ i ∈ l, i < m) : EqS (stF ops k0 b res l) (stF ops k0 b res l') := by
  have hlt' : ∀ i ∈ l', i < m := fun i hi => hlt i ((hm i).2 hi)
  refine ⟨by rw [(stF_n l).1, (stF_n l').1], by rw [(stF_n l).2, (stF_n l').2], by rw [stF_x, stF_x], fun t => ?_, fun p => ?_, stF_nd hb l hn hlt, stF_nd hb l' hn' hlt'⟩
  · by_cases hw : ∃ i, i ∈ l ∧ dstOf ops i = some t ∧ t < b.n
    · obtain ⟨i, hi, hd, htn⟩ := hw
      rw [stF_new hd htn l hi (fun j hj hji => uniqE hok (hlt i hi) (hlt j hj) hji hd), stF_new hd htn l' ((hm i).1 hi) (fun j hj hji => uniqE hok (hlt i hi) (hlt' j hj) hji hd)]
    · have hno : ∀ j ∈ l, dstOf ops j ≠ some t ∨ ¬ t < b.n := fun j hj => by
        by_cases h1 : dstOf ops j = some t
        · exact .inr fun h2 => hw ⟨j, hj, h1, h2⟩
        · exact .inl h1
      rw [stF_old l hno, stF_old l' (fun j hj => hno j ((hm j).2 hj))]
  · rw [stF_hmem, stF_hmem]
    constructor
    · rintro (⟨i, hi, r⟩ | h)
      · exact .inl ⟨i, (hm i).1 hi, r⟩
      · exact .inr h
    · rintro (⟨i, hi, r⟩ | h)
      · exact .inl ⟨i, (hm i).2 hi, r⟩
      · exact .inr h

theorem preN_nd : ∀ q, (preN q).Nodup
  | 0 => List.nodup_nil
  | q + 1 => List.nodup_cons.2 ⟨fun h => by have := mem_preN.1 h; omega, preN_nd q⟩

theorem guardA_congr {t t' : Nat → AV} {o : Oper} (h : ∀ j want d, o.guard = some (j, want) → (ops[j]?).bind (·.dst) = some d → t d = t' d) : guardA ops t o = guardA ops t' o := by
  unfold guardA
  cases hg : o.guard with
  | none => rfl
  | some g =>
    obtain ⟨j, want⟩ := g
    simp only
    cases hd : (ops[j]?).bind (·.dst) with
    | none => rfl
    | some d => simp only [h j want d hg hd]

/-- What an operation was shown to give stands when something that it does not look at is written. -/
theorem EvF_ver (hok : drawEk ops m A = true) {b b' : AState} {res res' : Nat → AV × Option Blk} {i : Nat} {o : Oper} (him : i < m) (ho : ops[i]? = some o) (hn : b.n = b'.n) (h1 : ∀ q, (res q).1 = (res' q).1) (h2 : res i = res' i)
    (ht : ∀ t, (t ∈ usesT o ∨ ∃ j, j < m ∧ dstOf ops j = some t) → b.t t = b'.t t)
    (hm : ∀ c n, (A.getD i ([], [])).2.contains n = false → (∀ q, q ∈ (A.getD i ([], [])).1 → k0 + q ≠ n) → find b.h n = some c → find b'.h n = some c)
    (hr : ∀ q, q ∈ (A.getD i ([], [])).1 → (A.getD i ([], [])).2.contains (k0 + q) = false → (res q).2 = (res' q).2) (hb : Base k0 m b) (hb' : Base k0 m b')
    (h : EvF P A ops k0 m b res i o) : EvF P A ops k0 m b' res' i o := by
  have f := factsE hok ho
  have htt : ∀ t, (t ∈ usesT o ∨ ∃ j, j < m ∧ dstOf ops j = some t) → (stF ops k0 b res (preN i)).t t = (stF ops k0 b' res' (preN i)).t t := fun t h => stF_t hn (ht t h) h1 _
  have hops : ∀ x ∈ o.op.operands.toList, evA (stF ops k0 b res (preN i)).t x = evA (stF ops k0 b' res' (preN i)).t x := by
    intro x hx
    cases x with
    | tmp t => exact htt t (.inl (usesT_mem hx))
    | _ => rfl
  have hmask : ∀ n c, maskF k0 m A b (stF ops k0 b res (preN i)) i n = some c → maskF k0 m A b' (stF ops k0 b' res' (preN i)) i n = some c := by
    intro n c hc
    unfold maskF at hc ⊢
    split at hc
    · cases hc
    · rename_i hu
      have hu' : (A.getD i ([], [])).2.contains n = false := by simpa using hu
      rw [if_neg hu]
      split at hc
      · rename_i hk
        rw [if_pos hk]
        split at hc
        · rename_i hq
          rw [if_pos hq]
          have hq' := List.contains_iff_mem.1 hq
          have hlt := (f.anc _ hq').1
          have e : n = k0 + (n - k0) := by omega
          rw [e] at hc ⊢
          rw [findF_new hb (by omega) _ (mem_preN.2 hlt)] at hc
          rw [findF_new hb' (by omega) _ (mem_preN.2 hlt), ← hr _ hq' (by rw [← e]; exact hu')]
          exact hc
        · cases hc
      · rename_i hk
        rw [if_neg hk]
        refine hm c n hu' (fun q hq e => hk ?_) hc
        have := (f.anc q hq).1
        omega
  have hgd : guardA ops (stF ops k0 b res (preN i)).t o = guardA ops (stF ops k0 b' res' (preN i)).t o := by
    refine guardA_congr fun j want d hg hd => htt d (.inr ⟨j, ?_, hd⟩)
    have := (f.guard him j want hg).1
    omega
  unfold EvF at *
  split at h
  · rename_i hg
    rw [← h2]
    exact qopK_more hops hmask h
  · rename_i g hg
    obtain ⟨c, want, e1, e2, e3⟩ := h
    rw [← hgd, ← h2]
    exact ⟨c, want, e1, fun hc => qopK_more hops hmask (e2 hc), e3⟩

theorem find_setN_ne {h : List (Nat × Blk)} {n q : Nat} {c : Blk} (hq : q ≠ n) : find (setN h n c) q = find h q := by
  induction h with
  | nil => rfl
  | cons p r ih =>
    obtain ⟨m', d⟩ := p
    rw [setN_cons]
    by_cases hm : m' = n
    · subst hm
      rw [if_pos rfl]
      simp only [find]
      rw [if_neg (Ne.symm hq), if_neg (Ne.symm hq)]
      exact ih
    · rw [if_neg hm]
      simp only [find]
      rw [ih]
theorem find_dropN {h : List (Nat × Blk)} {ns : List Nat} {q : Nat} (hq : q ∉ ns) : find (dropN ns h) q = find h q := by
  induction h with
  | nil => rfl
  | cons p r ih =>
    obtain ⟨m', d⟩ := p
    rw [dropN_cons]
    by_cases hm : ns.contains m' = true
    · rw [if_pos hm]
      have : m' ≠ q := fun e => hq (e ▸ List.contains_iff_mem.1 hm)
      simp only [find]
      rw [if_neg this]
      exact ih
    · rw [if_neg hm]
      simp only [find]
      rw [ih]
theorem stK_find {P : Program} {ρ : Operand → AV} {H : Nat → Option Blk} {t : TypeId} {p x : Operand} {K : Nat → Blk → Prop} (h : stK P ρ H t p x K) : stK P ρ H t p x (fun n b => K n b ∧ ∃ c, H n = some c) := by
  unfold stK at *
  split at h
  · split at h
    · rename_i c hk; obtain ⟨ch, h1, h2, h3⟩ := h; (try rw [hk]); exact ⟨ch, h1, h2, h3, c, hk⟩
    · exact h.elim
  · exact h.elim
theorem apK_find {P : Program} {ρ : Operand → AV} {H : Nat → Option Blk} {xs : List Operand} {ts : List TypeId} {K : List Nat → Nat → List (List AV) → Prop} (h : apK P ρ H xs ts K) : apK P ρ H xs ts (fun ns z l => K ns z l ∧ ∀ n ∈ ns, ∃ c, H n = some c) := by
  unfold apK at *
  split at h
  case h_2 => exact h.elim
  split at h
  case h_2 => exact h.elim
  obtain ⟨h1, h2, h⟩ := h
  refine ⟨h1, h2, ?_⟩
  unfold dstK at *
  split at h
  · split at h
    · rename_i c hk
      (try rw [hk])
      refine ⟨h.1, h.2.1, srcK_mono (fun l hl => ⟨hl.1, hl.2.1, hl.2.2, fun n hn => ?_⟩) h.2.2⟩
      simp only [List.mem_singleton] at hn
      subst hn
      exact ⟨c, hk⟩
    · exact h.elim
  · exact srcK_mono (fun l hl => ⟨hl.1, hl.2.1, hl.2.2, fun n hn => by simp at hn⟩) h
  · exact srcK_mono (fun l hl => ⟨hl.1, hl.2.1, hl.2.2, fun n hn => by simp at hn⟩) h
  · exact h.elim
theorem EqS.symm {s s' : AState} (e : EqS s s') : EqS s' s := ⟨e.n.symm, e.k.symm, e.x.symm, fun i => (e.t i).symm, fun p => (e.m p).symm, e.nd', e.nd⟩
theorem EqS.trans {s s' s'' : AState} (e : EqS s s') (f : EqS s' s'') : EqS s s'' := ⟨e.n.trans f.n, e.k.trans f.k, e.x.trans f.x, fun i => (e.t i).trans (f.t i), fun p => (e.m p).trans (f.m p), e.nd, f.nd'⟩
theorem Base.push {b : AState} (h : Base k0 m b) (c : Blk) (d : Option Nat) (v : AV) : Base k0 m (putA (pushA b c) d v) := by
  refine ⟨by rw [(putA_h _ _ _).2.2]; simp only [pushA]; have := h.1; omega, fun p hp => ?_, ?_⟩
  · rw [(putA_h _ _ _).1] at hp
    rw [(putA_h _ _ _).2.2]
    simp only [pushA, List.mem_cons] at hp ⊢
    rcases hp with rfl | hp
    · exact .inr ⟨h.1, by simp⟩
    · rcases h.2.1 p hp with h' | h'
      · exact .inl h'
      · exact .inr ⟨h'.1, by omega⟩
  · rw [(putA_h _ _ _).1]
    simp only [pushA, List.map_cons, List.nodup_cons]
    refine ⟨fun hm => ?_, h.2.2⟩
    obtain ⟨p, hp, he⟩ := List.mem_map.1 hm
    have := h.2.1 p hp
    have := h.1
    omega
theorem Base.drop {b : AState} (h : Base k0 m b) (ns : List Nat) : Base k0 m { b with h := dropN ns b.h } :=
  ⟨h.1, fun p hp => h.2.1 p (mem_dropN.1 hp).1, dropN_nodup ns h.2.2⟩
theorem Base.set {b : AState} (h : Base k0 m b) (n : Nat) (c : Blk) : Base k0 m { b with h := setN b.h n c } := by
  refine ⟨h.1, fun p hp => ?_, by simp only [setN_names]; exact h.2.2⟩
  rcases (mem_setN_iff n c p).1 hp with ⟨hp, _⟩ | ⟨rfl, q, hq, hqn⟩
  · exact h.2.1 p hp
  · have := h.2.1 q hq
    simp only; omega
theorem stF_push {b : AState} {res : Nat → AV × Option Blk} (hb : Base k0 m b) (c : Blk) (d : Option Nat) (v : AV) {l : List Nat} (hn : l.Nodup) (hlt : ∀ i ∈ l, i < m) (hok : drawEk ops m A = true)
    (hd : ∀ i ∈ l, ∀ t, d = some t → dstOf ops i ≠ some t) : EqS (stF ops k0 (putA (pushA b c) d v) res l) (putA (pushA (stF ops k0 b res l) c) d v) := by
  have hk : (stF ops k0 b res l).k = b.k := (stF_n l).2
  have hnn : (stF ops k0 b res l).n = b.n := (stF_n l).1
  refine ⟨?_, ?_, ?_, fun t => ?_, fun p => ?_, stF_nd (hb.push c d v) l hn hlt, ?_⟩
  · rw [(stF_n l).1, (putA_h _ _ _).2.1, (putA_h _ _ _).2.1]; simp only [pushA, hnn]
  · rw [(stF_n l).2, (putA_h _ _ _).2.2, (putA_h _ _ _).2.2]; simp only [pushA, hk]
  · rw [stF_x, putA_x, putA_x]; simp only [pushA, stF_x]
  · rw [putA_get]
    have hn1 : (pushA (stF ops k0 b res l) c).n = b.n := hnn
    have ht1 : (pushA (stF ops k0 b res l) c).t t = (stF ops k0 b res l).t t := rfl
    have hn2 : (putA (pushA b c) d v).n = b.n := (putA_h _ _ _).2.1
    rw [hn1, ht1]
    by_cases hw : ∃ i, i ∈ l ∧ dstOf ops i = some t ∧ t < b.n
    · obtain ⟨i, hi, hdi, htn⟩ := hw
      have hne : ¬ (d = some t ∧ t < b.n) := fun e => hd i hi t e.1 hdi
      rw [if_neg hne, stF_new hdi (by rw [hn2]; exact htn) l hi (fun j hj hji => uniqE hok (hlt i hi) (hlt j hj) hji hdi), stF_new hdi htn l hi (fun j hj hji => uniqE hok (hlt i hi) (hlt j hj) hji hdi)]
    · have hno : ∀ j ∈ l, dstOf ops j ≠ some t ∨ ¬ t < b.n := fun j hj => by
        by_cases h1 : dstOf ops j = some t
        · exact .inr fun h2 => hw ⟨j, hj, h1, h2⟩
        · exact .inl h1
      rw [stF_old l (by rw [hn2]; exact hno), stF_old l hno, putA_get]
      rfl
  · rw [stF_hmem, (putA_h _ _ _).1, (putA_h _ _ _).1]
    simp only [pushA, List.mem_cons, stF_hmem, hk]
    constructor
    · rintro (h | h | h)
      · exact .inr (.inl h)
      · exact .inl h
      · exact .inr (.inr h)
    · rintro (h | h | h)
      · exact .inr (.inl h)
      · exact .inl h
      · exact .inr (.inr h)
  · rw [(putA_h _ _ _).1]
    simp only [pushA, List.map_cons, List.nodup_cons]
    refine ⟨fun hm => ?_, stF_nd hb l hn hlt⟩
    obtain ⟨p, hp, he⟩ := List.mem_map.1 hm
    rw [hk] at he
    have := hb.1
    rcases stF_hmem.1 hp with ⟨q, hq', c', _, rfl⟩ | hp
    · have := hlt q hq'
      simp only at he; omega
    · have := hb.2.1 p hp; omega

theorem drawE_any {ro : Option Nat} {Cs : Ctx → Prop} {Fin : Act → World → Prop} (hg : GoodC P ro Cs) (hrec : Snd P rec) (hQ : ∀ s a w, Q s → Stc Cs s a w → Fin a w) (hok : drawEk ops m A = true) {C : Ctx} (hC : Cs C) :
    ∀ (n : Nat) (ex : List Nat) (j : Nat) (listed : Array Bool) (β : Bt) (a : Act) (w : World) (b : AState) (res : Nat → AV × Option Blk) (sF : AState),
      ex.length + (j - m) + n = ops.size → m ≤ j → j ≤ ops.size → ex.Nodup → (∀ i ∈ ex, i < m) → (∀ i, (i ∈ ex ∨ (m ≤ i ∧ i < j)) → ∀ o, ops[i]? = some o → ∀ p ∈ predsO o, (p ∈ ex ∨ (m ≤ p ∧ p < j))) →
      listed.size = ops.size → (∀ i, i < ops.size → listed.getD i true = decide (i ∈ ex ∨ (m ≤ i ∧ i < j))) → (∀ i, i < m → i ∉ ex → β (k0 + i) = none) → Base k0 m b →
      (∀ i, i < m → i ∉ ex → ∀ o, ops[i]? = some o → EvF P A ops k0 m b res i o) → EqS sF (stF ops k0 b res (preN m)) → tailE P A ops m k0 rec k Q (ops.toList.drop j) j sF →
      StR C (stF ops k0 b res ex) β a w → wpAnyIn (wd ro) 0 P .any ops (kpost Fin (Kont P Cs ro Fin k)) n listed a w := by
  have hP := hg.prog C hC
  subst hP
  have hms := drawEk_m hok
  -- all that is only looked at has come up
  have done : ∀ (n : Nat) (ex : List Nat) (j : Nat) (listed : Array Bool) (β : Bt) (a : Act) (w : World) (b : AState) (res : Nat → AV × Option Blk) (sF : AState), ex.length = m →
      ex.length + (j - m) + n = ops.size → m ≤ j → j ≤ ops.size → ex.Nodup → (∀ i ∈ ex, i < m) →
      listed.size = ops.size → (∀ i, i < ops.size → listed.getD i true = decide (i ∈ ex ∨ (m ≤ i ∧ i < j))) → Base k0 m b →
      EqS sF (stF ops k0 b res (preN m)) → tailE C.P A ops m k0 rec k Q (ops.toList.drop j) j sF →
      StR C (stF ops k0 b res ex) β a w → wpAnyIn (wd ro) 0 C.P .any ops (kpost Fin (Kont C.P Cs ro Fin k)) n listed a w := by
    intro n ex j listed β a w b res sF hfl hlen hmj hjs hnd hlt hls hl hb heq hT hst
    have hfull := full_mem hnd hlt hfl
    have hmem : ∀ i, i ∈ preN m ↔ i ∈ ex := fun i => by rw [mem_preN]; exact ⟨fun h => hfull i h, fun h => hlt i h⟩
    have hst' := (stF_perm (res := res) hok hb hmem (preN_nd m) hnd (fun i hi => mem_preN.1 hi)).stR hst
    have hst'' := heq.stR hst'
    have hn : n = (ops.toList.drop j).length := by simp; omega
    rw [hn]
    refine tailE_full hg hrec hQ hok _ j listed sF a w rfl hmj hjs hls (fun i hi => ?_) hT ⟨C, hC, β, hst''⟩
    rw [hl i hi]
    congr 1
    refine propext ⟨fun h => ?_, fun h => ?_⟩
    · rcases h with h | h
      · have := hlt i h; omega
      · exact h.2
    · by_cases him : i < m
      · exact .inl (hfull i him)
      · exact .inr ⟨by omega, h⟩
  intro n
  induction n with
  | zero =>
    intro ex j listed β a w b res sF hlen hmj hjs hnd hlt hcl hls hl hβ hb hev heq hT hst
    have := nodup_len hnd hlt
    exact done 0 ex j listed β a w b res sF (by omega) hlen hmj hjs hnd hlt hls hl hb heq hT hst
  | succ n ih =>
    intro ex j listed β a w b res sF hlen hmj hjs hnd hlt hcl hls hl hβ hb hev heq hT hst
    by_cases hfl : ex.length = m
    · exact done _ ex j listed β a w b res sF hfl hlen hmj hjs hnd hlt hls hl hb heq hT hst
    have hexm := nodup_len hnd hlt
    have hgd : ∀ q, q < ops.size → listed.getD q false = listed.getD q true := fun q hq => by simp [Array.getD, hls, hq]
    refine ⟨fun hnil => ?_, fun i hi => ?_⟩
    · -- the least that has not come up may come up
      obtain ⟨i, h1, h2, h3⟩ := exists_least hnd hlt (by omega)
      have his : i < ops.size := by omega
      have hin : i ∈ Region.ready .any ops listed := by
        refine mem_ready.2 ⟨by rw [hl i his]; simp [h2]; omega, ops[i], Array.getElem?_eq_getElem his, fun e he hb => ?_⟩
        have hp := (factsE hok (Array.getElem?_eq_getElem his)).back e.on (mem_predsO.2 ⟨e, he, hb, rfl⟩)
        rw [hgd _ (by omega), hl _ (by omega)]
        simp [h3 _ hp]
      rw [hnil] at hin; cases hin
    · obtain ⟨h1, o, ho, he⟩ := mem_ready.1 hi
      have his : i < ops.size := (Array.getElem?_eq_some_iff.1 ho).1
      rw [hl i his] at h1
      have hnot : ¬ (i ∈ ex ∨ (m ≤ i ∧ i < j)) := by simpa using h1
      have hnex : i ∉ ex := fun h => hnot (.inl h)
      have f := factsE hok ho
      have hpre : ∀ p ∈ predsO o, (p ∈ ex ∨ (m ≤ p ∧ p < j)) := by
        intro p hp
        obtain ⟨e, he1, he2, rfl⟩ := mem_predsO.1 hp
        have := he e he1 he2
        have hps := f.back e.on hp
        rw [hgd _ (by omega), hl _ (by omega)] at this
        simpa using this
      have hancE := ancE hok (Ex := fun q => q ∈ ex ∨ (m ≤ q ∧ q < j)) hcl i o ho hpre
      by_cases him : i < m
      · -- it is only looked at
        have hanc : ∀ q ∈ (A.getD i ([], [])).1, q ∈ ex := fun q hq => by
          have := (f.anc q hq).1
          rcases hancE q hq with h | h
          · exact h
          · omega
        have hdst : dstOf ops i = o.dst := by simp [dstOf, ho]
        have hslot : ∀ t, (t ∈ usesT o ∨ ∃ q, q ∈ (A.getD i ([], [])).1 ∧ dstOf ops q = some t) → (stF ops k0 b res ex).t t = (stF ops k0 b res (preN i)).t t := by
          intro t htu
          by_cases hw : ∃ q, q < m ∧ q ≠ i ∧ dstOf ops q = some t ∧ t < b.n
          · obtain ⟨q, hq, hqi, hd, htn⟩ := hw
            have hqs : q < ops.size := by omega
            have huniq : ∀ q', q' < m → q' ≠ q → dstOf ops q' ≠ some t := fun q' h1 h2 => uniqE hok hq h1 h2 hd
            have hrel : q < i ∧ q ∈ (A.getD i ([], [])).1 ∨ i < q ∧ q ∉ ex := by
              rcases htu with htu | ⟨q', hq', hdq⟩
              · have := (f.other him q t hq hqi hd).2 htu
                by_cases hlt' : q < i
                · rw [if_pos hlt'] at this; exact .inl ⟨hlt', this⟩
                · rw [if_neg hlt'] at this
                  refine .inr ⟨by omega, fun hje => hnex ?_⟩
                  have := ancE hok (Ex := fun q => q ∈ ex ∨ (m ≤ q ∧ q < j)) hcl q ops[q] (Array.getElem?_eq_getElem hqs) (hcl q (.inl hje) ops[q] (Array.getElem?_eq_getElem hqs)) i this
                  rcases this with h | h
                  · exact h
                  · omega
              · have hqi' := (f.anc q' hq').1
                have : q' = q := by
                  apply Classical.byContradiction
                  intro hne
                  exact huniq q' (by omega) hne hdq
                subst this
                exact .inl ⟨hqi', hq'⟩
            rcases hrel with ⟨hlt', hA⟩ | ⟨hgt, hne⟩
            · rw [stF_new hd htn ex (hanc q hA) (fun q' hq' => huniq q' (hlt q' hq')), stF_new hd htn (preN i) (mem_preN.2 hlt') (fun q' hq' => huniq q' (by have := mem_preN.1 hq'; omega))]
            · rw [stF_old ex (fun q' hq' => by
                by_cases hqj : q' = q
                · subst hqj; exact absurd hq' hne
                · exact .inl (huniq q' (hlt q' hq') hqj)), stF_old (preN i) (fun q' hq' => by
                have := mem_preN.1 hq'
                exact .inl (huniq q' (by omega) (by omega)))]
          · have hno : ∀ q, q < m → q ≠ i → dstOf ops q ≠ some t ∨ ¬ t < b.n := by
              intro q hq hqi
              by_cases h1 : dstOf ops q = some t
              · exact .inr fun h2 => hw ⟨q, hq, hqi, h1, h2⟩
              · exact .inl h1
            rw [stF_old ex (fun q hq => hno q (hlt q hq) (fun e => hnex (e ▸ hq))), stF_old (preN i) (fun q hq => by have := mem_preN.1 hq; exact hno q (by omega) (by omega))]
        have hops : ∀ x ∈ o.op.operands.toList, evA (stF ops k0 b res (preN i)).t x = evA (stF ops k0 b res ex).t x := by
          intro x hx
          cases x with
          | tmp t => exact (hslot t (.inl (usesT_mem hx))).symm
          | _ => rfl
        have hmask : ∀ q c, maskF k0 m A b (stF ops k0 b res (preN i)) i q = some c → find (stF ops k0 b res ex).h q = some c := by
          intro q c hk
          unfold maskF at hk
          split at hk
          · cases hk
          split at hk
          · rename_i hr
            split at hk
            · rename_i hc
              have hj : q - k0 ∈ (A.getD i ([], [])).1 := by simpa using hc
              have hji := (f.anc _ hj).1
              have ek : q = k0 + (q - k0) := by omega
              rw [ek] at hk ⊢
              rw [findF_new hb (by omega) _ (mem_preN.2 hji)] at hk
              rw [findF_new hb (by omega) _ (hanc _ hj)]; exact hk
            · cases hk
          · rename_i hr
            rw [findF_old ex (fun q' hq' => by have := hlt q' hq'; omega)]; exact hk
        have hgo : ∀ a' w' β', StR C (putA (addB (stF ops k0 b res ex) (k0 + i) (res i).2) o.dst (res i).1) β' a' w' → (∀ q, q ≠ k0 + i → β' q = β q) → wpAnyIn (wd ro) 0 C.P .any ops (kpost Fin (Kont C.P Cs ro Fin k)) n (listed.setIfInBounds i true) a' w' := by
          intro a' w' β' hst' hβ'
          refine ih (i :: ex) j _ β' a' w' b res sF (by simp; omega) hmj hjs (List.nodup_cons.2 ⟨hnex, hnd⟩) (fun q hq => ?_) (fun q hq o' ho' p hp => ?_) (by simp [hls]) (fun q hq => ?_) (fun q hq hqn => ?_) hb (fun q hq hqn o' ho' => hev q hq (fun h => hqn (List.mem_cons_of_mem _ h)) o' ho') heq hT (by simp only [stF, hdst]; exact hst')
          · rcases List.mem_cons.1 hq with rfl | hq
            · exact him
            · exact hlt q hq
          · have key : (p ∈ ex ∨ (m ≤ p ∧ p < j)) := by
              rcases hq with hq | hq
              · rcases List.mem_cons.1 hq with rfl | hq
                · rw [ho] at ho'; cases ho'; exact hpre p hp
                · exact hcl q (.inl hq) o' ho' p hp
              · exact hcl q (.inr hq) o' ho' p hp
            exact key.elim (fun h => .inl (List.mem_cons_of_mem _ h)) .inr
          · by_cases hqi : i = q
            · subst hqi; simp [Array.getD, hls, hq]
            · have e1 : (listed.setIfInBounds i true).getD q true = listed.getD q true := getD_set_ne true hqi
              rw [e1, hl q hq]
              congr 1
              exact propext ⟨fun h => h.elim (fun h => .inl (List.mem_cons_of_mem _ h)) .inr, fun h => h.elim (fun h => .inl ((List.mem_cons.1 h).resolve_left (fun e => hqi e.symm))) .inr⟩
          · have h1 : q ≠ i := fun e => hqn (e ▸ List.mem_cons_self)
            rw [hβ' _ (by omega)]
            exact hβ q hq (fun h => hqn (List.mem_cons_of_mem _ h))
        have hstep : qopK C.P (evA (stF ops k0 b res (preN i)).t) (maskF k0 m A b (stF ops k0 b res (preN i)) i) o (k0 + i) (fun x y => x = (res i).1 ∧ y = (res i).2) → o.wpIn (wd ro) 0 C.P a w (wpAnyIn (wd ro) 0 C.P .any ops (kpost Fin (Kont C.P Cs ro Fin k)) n (listed.setIfInBounds i true)) (kpost Fin (Kont C.P Cs ro Fin k)) := by
          intro hq
          refine qop_step hst (H := find (stF ops k0 b res ex).h) (fun _ _ h => h) (hβ i him hnex) (fun p hp => ?_) (by rw [(stF_n _).2]; have := hb.1; omega) (qopK_more hops hmask hq) hgo
          rcases stF_hmem.1 hp with ⟨q, hq', c, _, rfl⟩ | hp
          · have : q ≠ i := fun e => hnex (e ▸ hq')
            simp only; omega
          · have := hb.2.1 p hp; omega
        have hevi := hev i him hnex o ho
        unfold wpOpIn
        simp only [ho]
        unfold EvF at hevi
        split at hevi
        · rename_i hg'
          rw [if_pos (wanted_none hg' _)]
          exact hstep hevi
        · rename_i g hg'
          obtain ⟨c, want, hgdd, hyes, hno⟩ := hevi
          obtain ⟨q, want'⟩ := g
          have hgj := f.guard him q want' hg'
          have hwanted : Region.wanted o (yielded ops a.tmps) = decide (c = want) := by
            unfold guardA at hgdd
            rw [hg'] at hgdd
            simp only at hgdd
            split at hgdd
            case h_2 => cases hgdd
            rename_i d hd
            split at hgdd
            case h_3 => cases hgdd
            case h_2 =>
              rename_i hb'
              simp only [Option.some.injEq, Prod.mk.injEq] at hgdd
              obtain ⟨rfl, rfl⟩ := hgdd
              simp only [Region.wanted, hg', yielded, hd, Option.bind_some]
              have hx := hst.tm d
              rw [hslot d (.inr ⟨q, hgj.2, hd⟩), hb'] at hx
              generalize hv : a.tmps.getD d undef = va at hx
              cases hx
              exact wanted_undef hv want'
            rename_i b' hb'
            simp only [Option.some.injEq, Prod.mk.injEq] at hgdd
            obtain ⟨rfl, rfl⟩ := hgdd
            simp only [Region.wanted, hg', yielded, hd, Option.bind_some]
            have hx := hst.tm d
            rw [hslot d (.inr ⟨q, hgj.2, hd⟩), hb'] at hx
            have hu : a.tmps[d]? = some (.bool b') := by
              generalize hv : a.tmps.getD d undef = va at hx
              cases hx
              cases hq : a.tmps[d]? with
              | none =>
                rw [Array.getD_eq_getD_getElem?, hq] at hv
                cases hv
              | some y =>
                rw [Array.getD_eq_getD_getElem?, hq] at hv
                simp only [Option.getD_some] at hv
                rw [hv]
            rw [hu]
            cases b' <;> cases want' <;> rfl
          rw [hwanted]
          by_cases hbw : c = want
          · simp only [hbw, decide_true, if_true]
            exact hstep (hyes hbw)
          · simp only [hbw, decide_false, Bool.false_eq_true, if_false]
            have hr := hno hbw
            refine ⟨fun _ _ => trivial, hgo _ _ β ?_ (fun _ _ => rfl)⟩
            rw [hr]
            exact hst.put (.v _) o.dst
      · -- it writes, early
        have hij : i = j := by
          by_cases hji : j < i
          · rcases f.order (by omega) j hmj hji with hp | hp
            · rcases hpre j hp with h | h
              · have := hlt j h; omega
              · omega
            · rcases hancE j hp with h | h
              · have := hlt j h; omega
              · omega
          · by_cases hij' : i < j
            · exact absurd (.inr ⟨by omega, hij'⟩) hnot
            · omega
        subst hij
        have hmi : m ≤ i := by omega
        have hdr : ops.toList.drop i = o :: ops.toList.drop (i + 1) := by
          rw [List.drop_eq_getElem_cons (by simpa using his)]
          have : ops.toList[i]'(by simpa using his) = o := by
            have h2 := (Array.getElem?_eq_some_iff.1 ho).2
            simpa using h2
          rw [this]
        rw [hdr] at hT
        have hanc : ∀ q, q < m → q ∈ (A.getD i ([], [])).1 → q ∈ ex := fun q hq hqa => by
          rcases hancE q hqa with h | h
          · exact h
          · omega
        have hnf : fullW m A i = false := by
          cases hf : fullW m A i with
          | false => rfl
          | true =>
            have := len_ge (l := ex) (m := m) fun q hq => hanc q hq (fullW_mem hf q hq)
            omega
        obtain ⟨hsd, hearly⟩ := f.early hmi hnf
        have hslot : ∀ t, t ∈ usesT o → sF.t t = (stF ops k0 b res ex).t t := by
          intro t htu
          rw [heq.t]
          by_cases hw : ∃ q, q < m ∧ dstOf ops q = some t ∧ t < b.n
          · obtain ⟨q, hq, hd, htn⟩ := hw
            have hqe := hanc q hq (((hearly q hq).1 t hd).2 htu)
            rw [stF_new hd htn (preN m) (mem_preN.2 hq) (fun q' hq' hne => uniqE hok hq (mem_preN.1 hq') hne hd), stF_new hd htn ex hqe (fun q' hq' hne => uniqE hok hq (hlt q' hq') hne hd)]
          · have hno : ∀ q, q < m → dstOf ops q ≠ some t ∨ ¬ t < b.n := by
              intro q hq
              by_cases h1 : dstOf ops q = some t
              · exact .inr fun h2 => hw ⟨q, hq, h1, h2⟩
              · exact .inl h1
            rw [stF_old (preN m) (fun q hq => hno q (mem_preN.1 hq)), stF_old ex (fun q hq => hno q (hlt q hq))]
        have hops : ∀ x ∈ o.op.operands.toList, evA sF.t x = evA (stF ops k0 b res ex).t x := by
          intro x hx
          cases x with
          | tmp t => exact hslot t (usesT_mem hx)
          | _ => rfl
        have hmask : ∀ q c, maskE k0 m A sF i q = some c → find (stF ops k0 b res ex).h q = some c := by
          intro q c hk
          unfold maskE at hk
          split at hk
          · rename_i hr
            split at hk
            · rename_i hc
              have hj : q - k0 ∈ (A.getD i ([], [])).1 := by simpa using hc
              have ek : q = k0 + (q - k0) := by omega
              rw [heq.find] at hk
              rw [ek] at hk ⊢
              rw [findF_new hb (by omega) _ (mem_preN.2 (by omega))] at hk
              rw [findF_new hb (by omega) _ (hanc _ (by omega) hj)]; exact hk
            · cases hk
          · rename_i hr
            rw [heq.find, findF_old _ (fun q' hq' => by have := mem_preN.1 hq'; omega)] at hk
            rw [findF_old ex (fun q' hq' => by have := hlt q' hq'; omega)]; exact hk
        -- where a name that is there comes from
        have hname : ∀ nn c, find (stF ops k0 b res ex).h nn = some c → ∀ q, q < m → q ∉ ex → k0 + q ≠ nn := by
          intro nn c hc q hq hqn e
          rcases stF_hmem.1 (find_mem hc) with ⟨q', hq', c', _, he⟩ | hp
          · simp only [Prod.mk.injEq] at he
            have : q = q' := by omega
            exact hqn (this ▸ hq')
          · have := hb.2.1 _ hp
            simp only at this; omega
        have hnotA : ∀ q, q < m → q ∉ ex → q ∉ (A.getD i ([], [])).1 := fun q hq hqn h => hqn (hanc q hq h)
        have hexcl : ∀ nn, uOk m A i nn = true → ∀ q, q < m → q ∉ ex → (A.getD q ([], [])).2.contains nn = true := by
          intro nn hu q hq hqn
          unfold uOk at hu
          simp only [List.all_eq_true, List.mem_range, Bool.or_eq_true, List.contains_iff_mem] at hu
          rcases hu q hq with h | h
          · exact absurd h (hnotA q hq hqn)
          · exact List.contains_iff_mem.2 h
        have hlist : ∀ q, q < ops.size → (listed.setIfInBounds i true).getD q true = decide (q ∈ ex ∨ (m ≤ q ∧ q < i + 1)) := by
          intro q hq
          by_cases hqi : i = q
          · subst hqi; simp [Array.getD, hls, hq, hmi]
          · have e1 : (listed.setIfInBounds i true).getD q true = listed.getD q true := getD_set_ne true hqi
            rw [e1, hl q hq]
            congr 1
            exact propext ⟨fun h => h.imp_right (fun h => ⟨h.1, by omega⟩), fun h => h.imp_right (fun h => ⟨h.1, by omega⟩)⟩
        have hcl' : ∀ q, (q ∈ ex ∨ (m ≤ q ∧ q < i + 1)) → ∀ o', ops[q]? = some o' → ∀ p ∈ predsO o', (p ∈ ex ∨ (m ≤ p ∧ p < i + 1)) := by
          intro q hq o' ho' p hp
          have key : (p ∈ ex ∨ (m ≤ p ∧ p < i)) := by
            by_cases hqi : q = i
            · subst hqi
              rw [ho] at ho'; cases ho'; exact hpre p hp
            · exact hcl q (hq.imp_right (fun h => ⟨h.1, by omega⟩)) o' ho' p hp
          exact key.imp_right (fun h => ⟨h.1, by omega⟩)
        unfold tailE at hT
        rw [if_neg (by rw [hnf]; simp)] at hT
        unfold wpOpIn
        simp only [ho]
        rw [if_pos (wanted_none (f.noguard hmi) _)]
        split at hT
        · rename_i t p x hop
          have hp1 : p ∈ o.op.operands.toList := by rw [hop]; simp [Op.operands]
          have hx1 : x ∈ o.op.operands.toList := by rw [hop]; simp [Op.operands]
          have hs := stK_find (stK_more (hops p hp1) (hops x hx1) hmask (fun _ _ h => h) hT)
          obtain ⟨nn, c, w', ⟨⟨hu, hT'⟩, c0, hc0⟩, hrun, hst'⟩ := stK_sound hst hop hs
          refine ⟨fun _ _ => trivial, ?_⟩
          rw [Oper.semAt_eq _ _ _ (fun c hc => by rw [hop] at hc; cases hc), hrun]
          have hdn := hsd t p x hop
          show wpAnyIn (wd ro) 0 C.P .any ops (kpost Fin (Kont C.P Cs ro Fin k)) n (listed.setIfInBounds i true) (a.put o.dst undef) w'
          rw [hdn]
          refine ih ex (i + 1) _ β _ w' { b with h := setN b.h nn c } (resS k0 nn c res) { sF with h := setN sF.h nn c } (by omega) (by omega) (by omega) hnd hlt hcl' (by simp [hls]) hlist hβ (hb.set nn c)
            (fun q hq hqn o' ho' => EvF_ver (b := b) (b' := { b with h := setN b.h nn c }) (res := res) (res' := resS k0 nn c res) hok hq ho' (by rfl) (fun _ => rfl) ?_ (fun _ _ => rfl) (fun d n' he _ hf => ?_) (fun q' hq' he => ?_) hb (hb.set nn c) (hev q hq hqn o' ho')) ?_ hT' ?_
          · have : k0 + q ≠ nn := hname nn c0 hc0 q hq hqn
            simp only [resS, if_neg this]
          · have hne : n' ≠ nn := fun e => by subst e; rw [hexcl n' hu q hq hqn] at he; cases he
            simp only
            rw [find_setN_ne hne]; exact hf
          · have hne : k0 + q' ≠ nn := fun e => by rw [e, hexcl nn hu q hq hqn] at he; cases he
            simp only [resS, if_neg hne]
          · rw [stF_set]; exact heq.set nn c
          · rw [stF_set]; exact hst'
        · rename_i xs ts hop
          have hs := apK_find (apK_more (fun x hx => hops x (by rw [hop]; simp only [Op.operands, Call.operands]; rw [Array.toList_append]; exact List.mem_append_right _ hx)) hmask hT)
          obtain ⟨ns, z, l, u, w', β', ⟨⟨hu, hT'⟩, hfd⟩, hrun, hst', hR, hβ', _⟩ := apK_sound hst hop hs
          refine ⟨fun _ _ => trivial, ?_⟩
          rw [Oper.semAt_eq _ _ _ (fun c hc => by rw [hop] at hc; cases hc), hrun]
          show wpAnyIn (wd ro) 0 C.P .any ops (kpost Fin (Kont C.P Cs ro Fin k)) n (listed.setIfInBounds i true) (a.put o.dst u) w'
          have hXk : (stF ops k0 b res ex).k = b.k := (stF_n ex).2
          have hsk : sF.k = b.k := heq.k.trans (stF_n _).2
          have hb2 := hb.drop ns
          have hdd : ∀ q, q < m → ∀ t, o.dst = some t → dstOf ops q ≠ some t := fun q hq t ht hd => ((hearly q hq).1 t hd).1 ht
          have hb1 := hb2.push ⟨z, l⟩ o.dst (.sl b.k 0 l.length)
          have hlk : ∀ p ∈ (stF ops k0 b res (preN m)).h, p.1 < (stF ops k0 b res (preN m)).k := fun p hp => by
            rw [(stF_n _).2]
            have := hb.1
            rcases stF_hmem.1 hp with ⟨q, hq', c', _, rfl⟩ | hp
            · have := mem_preN.1 hq'
              simp only; omega
            · have := hb.2.1 p hp; omega
          refine ih ex (i + 1) _ β' _ w' (putA (pushA { b with h := dropN ns b.h } ⟨z, l⟩) o.dst (.sl b.k 0 l.length)) (resD k0 ns res) _ (by omega) (by omega) (by omega) hnd hlt hcl' (by simp [hls]) hlist (fun q hq hqn => ?_) hb1
            (fun q hq hqn o' ho' => EvF_ver (b := b) (res := res) (res' := resD k0 ns res) hok hq ho' ?_ (fun _ => rfl) ?_ (fun t ht => ?_) (fun d n' he _ hf => ?_) (fun q' hq' he => ?_) hb hb1 (hev q hq hqn o' ho')) ?_ hT' ?_
          · rw [hβ' _ (by rw [hXk]; have := hb.1; omega)]; exact hβ q hq hqn
          · rw [(putA_h _ _ _).2.1]; rfl
          · have : ¬ (k0 + q) ∈ ns := fun h => by
              obtain ⟨c0, hc0⟩ := hfd _ h
              exact hname _ c0 hc0 q hq hqn rfl
            have h2 : ns.contains (k0 + q) = false := by simpa using this
            simp only [resD, h2, Bool.false_eq_true, if_false]
          · rw [putA_get]
            have : ¬ (o.dst = some t ∧ t < (pushA { b with h := dropN ns b.h } ⟨z, l⟩).n) := fun e => by
              rcases ht with ht | ⟨q', hq', hd'⟩
              · exact (hearly q hq).2 t o' e.1 ho' ht
              · exact hdd q' hq' t e.1 hd'
            rw [if_neg this]; rfl
          · have hnb := hb.2.1 _ (find_mem hf)
            have hnk := hb.1
            have hnn : n' ∉ ns := fun h => by rw [hexcl n' (hu n' h) q hq hqn] at he; cases he
            rw [(putA_h _ _ _).1]
            simp only [pushA, find]
            rw [if_neg (by simp only at hnb; omega), find_dropN hnn]; exact hf
          · have hnn : ¬ (k0 + q') ∈ ns := fun h => by rw [hexcl _ (hu _ h) q hq hqn] at he; cases he
            have h2 : ns.contains (k0 + q') = false := by simpa using hnn
            simp only [resD, h2, Bool.false_eq_true, if_false]
          · have e1 := ((heq.drop ns).push (fun p hp => hlk p (mem_dropN.1 hp).1) ⟨z, l⟩).put o.dst (.sl sF.k 0 l.length)
            rw [← stF_drop] at e1
            refine e1.trans ?_
            rw [hsk]
            exact (stF_push (res := resD k0 ns res) hb2 ⟨z, l⟩ o.dst (.sl b.k 0 l.length) (preN_nd m) (fun q hq => mem_preN.1 hq) hok (fun q hq => hdd q (mem_preN.1 hq))).symm
          · have e1 := stF_push (res := resD k0 ns res) hb2 ⟨z, l⟩ o.dst (.sl b.k 0 l.length) hnd hlt hok (fun q hq => hdd q (hlt q hq))
            refine e1.stR ?_
            rw [stF_drop]
            have hv : AV.sl (stF ops k0 b res ex).k 0 l.length = AV.sl b.k 0 l.length := by rw [hXk]
            rw [hv] at hR
            exact hst'.put hR o.dst
        · exact hT.elim
end

/-- **THE RULE** for a drawn region in which something may be written before all that is only looked at has come up. -/
theorem AtCode.drawE {P : Program} {rec : List It → (AState → Prop) → AState → Prop} {id : Nat} {ops : Array Oper} {k : List It} {Q : AState → Prop} {s : AState} (m : Nat) (A : List (List Nat × List Nat)) (hok : drawEk ops m A = true)
    (h : vcQ P A ops s (tailE P A ops m s.k rec k Q (ops.toList.drop m) m) (ops.toList.take m) 0 { s with k := s.k + m }) : AtCode P rec (.region id ops true) k Q s := by
  intro ro Cs Fin hg hm hrec hQ a w hs
  obtain ⟨C, hC, β, hst⟩ := hs
  refine wpIn_region_any hm ?_
  have hms := drawEk_m hok
  have hlen : (ops.toList.take m).length = m := by simp; omega
  obtain ⟨res, h1, h2, h3⟩ := vcQ_res (A := A) (ops := ops) (s0 := s) (m := m) (ops.toList.take m) 0 (fun _ => (.unk, none)) (fun q hq => by
    rw [hlen] at hq
    rw [List.getElem?_take_of_lt hq, Nat.zero_add, Array.getElem?_toList]) h
  rw [hlen, Nat.zero_add] at h3
  have hst0 : StR C (stF ops s.k { s with k := s.k + m } res []) β a { w with drawn := w.drawn + 1 } := by
    have hsame := hst.same (w' := { w with drawn := w.drawn + 1 }) rfl rfl rfl rfl
    refine ⟨hsame.defers, hsame.size, hsame.tm, hsame.own, fun p hp => ?_, fun q r hr => ?_, hsame.nd, hsame.inj, hsame.mine, hsame.fr, hsame.Flt, hsame.sv, hsame.yy⟩
    · have := hsame.lt p hp; simp only [stF]; omega
    · have := hsame.βlt q r hr; simp only [stF]; omega
  have hb : Base s.k m { s with k := s.k + m } := ⟨Nat.le_refl _, fun p hp => .inl (hst.lt p hp), hst.nd⟩
  refine drawE_any hg hrec hQ hok hC ops.size [] m _ β a _ { s with k := s.k + m } res _ (by simp) (Nat.le_refl _) hms List.nodup_nil (by simp) (fun i hi => ?_) (by simp) (fun i hi => by simp [Array.getD, hi]) (fun q hq _ => ?_) hb (fun i hi _ o ho => ?_) ?_ h3 hst0
  · rcases hi with hi | hi
    · simp at hi
    · omega
  · cases hb : β (s.k + q) with
    | none => rfl
    | some r => exact absurd (hst.βlt _ _ hb) (by omega)
  · have hev := h2 i o (by rw [hlen]; exact hi) (by simpa using ho)
    rw [Nat.zero_add] at hev
    exact EvO_F hst.lt (fun j hj => by have := ((factsE hok ho).anc j hj).1; omega) hev
  · rw [stE_stF]
    have hnd := stF_nd (ops := ops) (res := res) hb (preN m) (preN_nd m) (fun q hq => mem_preN.1 hq)
    exact ⟨rfl, rfl, rfl, fun _ => rfl, fun _ => Iff.rfl, hnd, hnd⟩
end Go.Eng
