/- The engine, part C: the quiet operations' answers are right. -/
import Derived.Test.YtdhdopmjaibggaaEngB
set_option linter.unusedSimpArgs false
set_option linter.unusedVariables false
namespace Go.Eng
open Go Go.RowKit

section
variable {P : Program} {X : Nat → Prop} {β : Bt} {w : World}

theorem RS.asI {a : AV} {x : Value} {k : IntKind} {i : Int} (h : RS X β w a x) (he : Eng.asI a = some (k, i)) : x = .int k i := by
  cases h with
  | v x => cases x <;> simp_all [Eng.asI]
  | _ => simp [Eng.asI] at he

theorem addr_add (b o n : Nat) : Addr.add ⟨b, o, none⟩ n = ⟨b, o + n, none⟩ := by
  unfold Addr.add; split
  · subst_vars; rfl
  · rfl

theorem fill_sound {place : Nat → Option (Nat × Nat)} : ∀ (parts : List (Nat × AV)) (vs : List (Nat × Value)) (cells c : List AV) (cs : Array Value),
    parts.length = vs.length → (∀ (k : Nat) (p : Nat × AV) (q : Nat × Value), parts[k]? = some p → vs[k]? = some q → p.1 = q.1 ∧ RS X β w p.2 q.2) →
    cells.length = cs.size → (∀ (k : Nat) (s : AV) (u : Value), cells[k]? = some s → cs[k]? = some u → RS X β w s u) →
    fillA place cells parts = some c → ∃ r, Instr.fill place cs vs = some r ∧ c.length = r.size ∧ (∀ (k : Nat) (s : AV) (u : Value), c[k]? = some s → r[k]? = some u → RS X β w s u)
  | [], [], cells, c, cs, _, _, hl, hR, hf => by simp only [fillA, Option.some.injEq] at hf; subst hf; exact ⟨cs, rfl, hl, hR⟩
  | [], _ :: _, _, _, _, h, _, _, _, _ => by simp at h
  | _ :: _, [], _, _, _, h, _, _, _, _ => by simp at h
  | (i, a) :: r, (i', v) :: vs, cells, c, cs, h, hp, hl, hR, hf => by
    obtain ⟨hi, ha⟩ := hp 0 (i, a) (i', v) rfl rfl
    simp only at hi ha; subst hi
    unfold fillA at hf
    split at hf
    case h_2 => cases hf
    rename_i o z l hpl hcl
    split at hf
    case isFalse => cases hf
    rename_i hb
    obtain ⟨h1, h2⟩ := ha.cells hcl
    have hsz : v.cells.size = z := by omega
    -- what the cells are behind the part
    have hset : ∀ (vs' : List Value) (o' : Nat) (cs' : Array Value), o' + vs'.length ≤ cs'.size →
        (vs'.zipIdx o').foldl (fun (cs : Array Value) (p : Value × Nat) => cs.setIfInBounds p.2 p.1) cs' = (cs'.toList.take o' ++ vs' ++ cs'.toList.drop (o' + vs'.length)).toArray := by
      intro vs'
      induction vs' with
      | nil => intro o' cs' ho; simp
      | cons x xs ih =>
        intro o' cs' ho
        simp only [List.zipIdx_cons, List.foldl_cons]
        rw [ih (o' + 1) _ (by simp at ho ⊢; omega)]
        simp only [Array.toList_setIfInBounds]
        congr 1
        have := list_seg_step cs'.toList o' x xs (by simp at ho ⊢; omega)
        simpa [Nat.add_assoc, Nat.add_comm, Nat.add_left_comm] using this
    have hfold : (v.cells.zipIdx.foldl (fun (cs : Array Value) (p : Value × Nat) => cs.setIfInBounds (o + p.2) p.1) cs) = (cs.toList.take o ++ v.cells.toList ++ cs.toList.drop (o + v.cells.size)).toArray := by
      have e := hset v.cells.toList o cs (by simp; omega)
      rw [← Array.foldl_toList, Array.toList_zipIdx]
      have : v.cells.toList.zipIdx o = (v.cells.toList.zipIdx 0).map fun p => (p.1, o + p.2) := by
        apply List.ext_getElem?
        intro k
        simp only [List.getElem?_zipIdx, List.getElem?_map]
        cases v.cells.toList[k]? <;> simp
      rw [this, List.foldl_map] at e
      simpa using e
    have hn : (cells.take o ++ l ++ cells.drop (o + l.length)).length = (cs.toList.take o ++ v.cells.toList ++ cs.toList.drop (o + v.cells.size)).toArray.size := by simp [h1, hl]
    obtain ⟨r', hr1, hr2, hr3⟩ := fill_sound r vs _ c (cs.toList.take o ++ v.cells.toList ++ cs.toList.drop (o + v.cells.size)).toArray (by simpa using h)
      (fun k p q hp' hq' => hp (k + 1) p q (by simpa using hp') (by simpa using hq')) hn (fun k s u hs hu => by
        have hlt : o ≤ cells.length := by omega
        have hlc : o ≤ cs.toList.length := by simp; omega
        simp only [List.getElem?_toArray, List.append_assoc] at hs hu
        by_cases k1 : k < o
        · rw [List.getElem?_append_left (by simp; omega), List.getElem?_take_of_lt k1] at hs
          rw [List.getElem?_append_left (by simp; omega), List.getElem?_take_of_lt k1] at hu
          exact hR k s u hs (by simpa using hu)
        · rw [List.getElem?_append_right (by simp; omega)] at hs
          rw [List.getElem?_append_right (by simp; omega)] at hu
          simp only [List.length_take, Nat.min_eq_left hlt, Nat.min_eq_left hlc] at hs hu
          by_cases k2 : k - o < l.length
          · rw [List.getElem?_append_left k2] at hs
            rw [List.getElem?_append_left (by simp; omega)] at hu
            exact h2 _ s u hs (by simpa using hu)
          · rw [List.getElem?_append_right (by omega)] at hs
            rw [List.getElem?_append_right (by simp; omega)] at hu
            simp only [List.getElem?_drop, Array.length_toList, ← h1] at hs hu
            have : o + l.length + (k - o - l.length) = k := by omega
            rw [this] at hs hu
            exact hR k s u hs (by simpa using hu)) hf
    refine ⟨r', ?_, hr2, hr3⟩
    unfold Instr.fill
    simp only [hpl]
    have : ¬ (v.cells.size ≠ z || decide (o + v.cells.size > cs.size)) = true := by simp; omega
    rw [if_neg this]
    rw [← hr1]
    congr 1
theorem fillA_more {place place' : Nat → Option (Nat × Nat)} (h : ∀ i x, place i = some x → place' i = some x) : ∀ (parts : List (Nat × AV)) (cells c : List AV), fillA place cells parts = some c → fillA place' cells parts = some c
  | [], cells, c, hf => by simpa [fillA] using hf
  | (i, a) :: r, cells, c, hf => by
    unfold fillA at hf ⊢
    cases hp : place i with
    | none => simp [hp] at hf
    | some x =>
      obtain ⟨o, z⟩ := x
      rw [hp] at hf
      rw [h i _ hp]
      cases hc : cellsA a with
      | none => simp [hc] at hf
      | some l =>
        simp only [hc] at hf ⊢
        split at hf
        · rename_i hb; rw [if_pos hb]; exact fillA_more h r _ c hf
        · cases hf

theorem loadK_own {n : Nat} {k : Blk} {i j : Nat} {t : TypeId} {ch : List AV} {K : AV → Prop} {b o e : Nat} (hb : β n = some (b, o, e)) (ho : OwnR X β w n k) (hi : k.l[i]? = some ch) (h : loadK P t ch j K) :
    ∃ av x, K av ∧ (loadVar t ⟨b, o + i * e + j, none⟩).run P w = .ok x w ∧ RS X β w av x := by
  rcases ho with ⟨b', o', c, t', h1, h2, h3, h4, h5⟩ | ⟨h1, h2⟩
  · rw [h1] at hb; cases hb
    have hch : ch.length = k.e := h3 ch (List.mem_of_getElem? hi)
    have hil : i < k.l.length := (List.getElem?_eq_some_iff.1 hi).1
    have hle : (i + 1) * k.e ≤ k.l.length * k.e := Nat.mul_le_mul_right _ hil
    rw [Nat.succ_mul] at hle
    refine run_loadVar' (u := fun q => c.getD (o + i * k.e + q) undef) h (fun q hq => ?_) (fun q s hs => ?_)
    · have hlt : o + i * k.e + q < c.size := by omega
      simp [World.cell?, h2, hlt]
    · obtain ⟨u, hu, hr⟩ := h5 i q ch s hi hs
      have : c.getD (o + i * k.e + q) undef = u := by
        have hlt := (Array.getElem?_eq_some_iff.1 hu).1
        simpa [Array.getD, hlt] using (Array.getElem?_eq_some_iff.1 hu).2
      rw [this]; exact hr
  · rw [h1] at hi; simp at hi

theorem own_e {n : Nat} {k : Blk} {b o e : Nat} (hb : β n = some (b, o, e)) (ho : OwnR X β w n k) : e = k.e := by
  rcases ho with ⟨b', o', c, t', h1, h2, h3, h4, h5⟩ | ⟨h1, h2⟩
  · rw [h1] at hb; cases hb; rfl
  · rw [h2] at hb; cases hb

theorem orel (x : Option Operand) {ρ : Operand → AV} {ρc : Operand → Value} (hρ : ∀ x, RS X β w (ρ x) (ρc x)) :
    (x.map ρ = none ∧ x.map ρc = none) ∨ ∃ a v, x.map ρ = some a ∧ x.map ρc = some v ∧ RS X β w a v := by
  cases x with
  | none => exact .inl ⟨rfl, rfl⟩
  | some x => exact .inr ⟨_, _, rfl, rfl, hρ x⟩

theorem run_bound {a : AV} {v : Value} {k : IntKind} {i : Int} {l y : Nat} {code : BoundsCode} (ha : RS X β w a v) (he : Eng.asI a = some (k, i)) (hi : i = (l : Int)) (hy : l ≤ y) :
    (Instr.sliceBound v y code).run P w = .ok l w := by
  rw [ha.asI he, hi]
  have : (0 : Int) ≤ (l : Int) ∧ (l : Int) ≤ (y : Int) := by omega
  simp [Instr.sliceBound, asIntOf, this]

theorem sliceK_sound {H : Nat → Option Blk} (hH : ∀ n k, H n = some k → OwnR X β w n k) {t : TypeId} {x : AV} {v : Value} {lo hi mx : Option AV} {lo' hi' mx' : Option Value} {K : AV → Prop} (hp : ptT P t = none) (har : arT P t = none) (hx : RS X β w x v)
    (hlo : (lo = none ∧ lo' = none) ∨ ∃ a v, lo = some a ∧ lo' = some v ∧ RS X β w a v) (hhi : (hi = none ∧ hi' = none) ∨ ∃ a v, hi = some a ∧ hi' = some v ∧ RS X β w a v)
    (hmx : (mx = none ∧ mx' = none) ∨ ∃ a v, mx = some a ∧ mx' = some v ∧ RS X β w a v) (h : sliceK P H t x lo hi mx K) :
    ∃ av u, K av ∧ (Instr.sliceAt t v lo' hi' mx').run P w = .ok u w ∧ RS X β w av u := by
  unfold sliceK at h
  split at h
  case h_1 => exact h.elim
  rename_i n hn
  obtain ⟨l, h', h1, h2, h3, h4, h5, h⟩ := h
  -- the bounds
  have hbnd : ∀ (isS : Bool) (cap : Nat), n ≤ cap → (Instr.sliceBounds isS n cap lo' hi' mx').run P w = .ok (l, h', if mx' = none then cap else h') w := by
    intro isS cap hcap
    rcases hmx with ⟨rfl, rfl⟩ | ⟨a3, v3, rfl, rfl, r3⟩
    · rcases hhi with ⟨rfl, rfl⟩ | ⟨a2, v2, rfl, rfl, r2⟩
      · simp only at h2
        obtain ⟨rfl, _⟩ := h2
        rcases hlo with ⟨rfl, rfl⟩ | ⟨a1, v1, rfl, rfl, r1⟩
        · simp only at h1; subst h1; simp [Instr.sliceBounds]
        · simp only at h1; obtain ⟨k1, i1, e1, e2⟩ := h1
          simp [Instr.sliceBounds, run_bound r1 e1 e2 h4]
      · simp only at h2; obtain ⟨k2, i2, e3, e4⟩ := h2
        rcases hlo with ⟨rfl, rfl⟩ | ⟨a1, v1, rfl, rfl, r1⟩
        · simp only at h1; subst h1; simp [Instr.sliceBounds, run_bound r2 e3 e4 (Nat.le_trans h5 hcap)]
        · simp only at h1; obtain ⟨k1, i1, e1, e2⟩ := h1
          simp [Instr.sliceBounds, run_bound r2 e3 e4 (Nat.le_trans h5 hcap), run_bound r1 e1 e2 h4]
    · rcases hhi with ⟨rfl, rfl⟩ | ⟨a2, v2, rfl, rfl, r2⟩
      · simp at h2
      · simp only at h2 h3; obtain ⟨k2, i2, e3, e4⟩ := h2; obtain ⟨k3, i3, e5, e6⟩ := h3
        rcases hlo with ⟨rfl, rfl⟩ | ⟨a1, v1, rfl, rfl, r1⟩
        · simp only at h1; subst h1; simp [Instr.sliceBounds, run_bound r3 e5 e6 (Nat.le_trans h5 hcap), run_bound r2 e3 e4 (Nat.le_refl _)]
        · simp only at h1; obtain ⟨k1, i1, e1, e2⟩ := h1
          simp [Instr.sliceBounds, run_bound r3 e5 e6 (Nat.le_trans h5 hcap), run_bound r2 e3 e4 (Nat.le_refl _), run_bound r1 e1 e2 h4]
  have hsl : ∀ (d : TypeId) (b q len cap : Nat), slT P t = some d → 0 < szT P d → len = n → n ≤ cap →
      ∃ m q', (Instr.sliceAt t (.slice (some ⟨b, q, none⟩) len cap) lo' hi' mx').run P w = .ok (.slice (some ⟨b, q', none⟩) (h' - l) (m - l)) w ∧ m ≤ cap ∧ h' ≤ m ∧ (q' = q + l * szT P d ∨ (m = l ∧ q' = q)) := by
    intro d b q len cap hd hz hl hc
    have hu := und_of_slT hd
    subst hl
    have hbc := hbnd true cap hc
    have hM1 : (if mx' = none then cap else h') ≤ cap := by split <;> omega
    have hM2 : h' ≤ (if mx' = none then cap else h') := by split <;> omega
    generalize (if mx' = none then cap else h') = M at hbc hM1 hM2
    refine ⟨M, if M = l then q else q + l * szT P d, ?_, hM1, hM2, ?_⟩
    · simp only [Instr.sliceAt, Sem.run_bind, run_underlying hu, Result.andThen_ok, Instr.slice, hbc, run_sizeOf' hz, Sem.run_pure, Option.map_some, addr_add]
      by_cases hMl : M = l <;> simp [hMl]
    · split
      · rename_i e; exact .inr ⟨e, rfl⟩
      · exact .inl rfl
  split at h
  · rename_i s
    obtain ⟨h6, hu, hK⟩ := h
    simp only [lenA, Option.some.injEq] at hn
    cases hx
    refine ⟨_, _, hK, ?_, .v _⟩
    rcases hmx with ⟨rfl, rfl⟩ | ⟨a3, v3, rfl, rfl, r3⟩
    · have hb := hbnd false s.size (by omega)
      rw [← hn] at hb
      simp [Instr.sliceAt, Instr.slice, run_underlying hu, hb]
    · cases h6
  · rename_i e c
    obtain ⟨⟨d, hd, hz, hpos⟩, hK⟩ := h
    subst hz
    simp only [lenA, Option.some.injEq] at hn
    cases hx with
    | ro0 =>
      rename_i cap a
      simp at hn; subst hn
      obtain rfl : l = 0 := by omega
      obtain rfl : h' = 0 := by omega
      have hu := und_of_slT hd
      refine ⟨_, .slice (if (if mx' = none then cap else 0) = 0 then a else a.map (·.add (0 * szT P d))) 0 ((if mx' = none then cap else 0) - 0), hK, ?_, by simpa using RS.ro0⟩
      simp only [Instr.sliceAt, Sem.run_bind, run_underlying hu, Result.andThen_ok, Instr.slice, hbnd true cap (Nat.zero_le _), run_sizeOf' hpos, Sem.run_pure]
    | ro u hX hb hl hdd hu hR =>
      rename_i b o cap
      obtain ⟨m, q', hr, hm1, hm2, hq⟩ := hsl d b o _ cap hd hpos hn (by omega)
      refine ⟨_, _, hK, hr, ?_⟩
      have hlen : ((c.take h').drop l).length = h' - l := by simp; omega
      rcases hq with rfl | ⟨rfl, rfl⟩
      · rw [← hlen]
        refine .ro (fun k => u (l * szT P d + k)) hX hb (by omega) (fun ch hch => hdd ch (List.mem_of_mem_take (List.mem_of_mem_drop hch))) (fun k hk => ?_) (fun i j ch s hi hj => ?_)
        · rw [Nat.add_assoc]
          refine hu _ ?_
          rw [hlen] at hk
          have : (h' - l) * szT P d + l * szT P d ≤ c.length * szT P d := by rw [← Nat.add_mul]; exact Nat.mul_le_mul_right _ (by omega)
          omega
        · rw [List.getElem?_drop] at hi
          rw [List.getElem?_take] at hi
          split at hi
          · have := hR _ _ _ _ hi hj
            rwa [Nat.add_mul, Nat.add_assoc] at this
          · cases hi
      · have h0 : (c.take h').drop m = [] := List.eq_nil_of_length_eq_zero (by rw [hlen]; omega)
        have h1 : h' - m = 0 := by omega
        rw [h0, h1]
        exact .ro0
  · rename_i m i len
    obtain ⟨d, hd, hpos, h⟩ := h
    split at h
    case h_2 => exact h.elim
    rename_i kb hkb
    obtain ⟨hke, hK⟩ := h
    simp only [lenA, Option.some.injEq] at hn
    subst hn
    cases hx with
    | slz =>
      rename_i a
      obtain rfl : l = 0 := by omega
      obtain rfl : h' = 0 := by omega
      have hu := und_of_slT hd
      have hM : (if mx' = none then 0 else 0) = 0 := by split <;> rfl
      refine ⟨_, .slice a 0 0, hK, ?_, .slz⟩
      have hbc := hbnd true 0 (Nat.le_refl _)
      rw [hM] at hbc
      simp [Instr.sliceAt, Instr.slice, run_underlying hu, hbc, run_sizeOf' hpos]
    | sl hb hl hs hc =>
      rename_i cap b o e mm t'
      obtain ⟨M, q', hr, hm1, hm2, hq⟩ := hsl d b (o + i * e) _ cap hd hpos rfl hl
      refine ⟨_, _, hK, hr, ?_⟩
      rcases hq with rfl | ⟨rfl, rfl⟩
      · have he : e = kb.e := own_e hb (hH _ _ hkb)
        have r := RS.sl (X := X) (w := w) (i := i + l) (len := h' - l) (cap := M - l) hb (by omega) hs (by
          have : (i + l + (M - l)) * e ≤ (i + cap) * e := Nat.mul_le_mul_right _ (by omega)
          omega)
        rw [he, hke, Nat.add_mul, ← Nat.add_assoc] at r
        rw [he, hke]; exact r
      · have h1 : h' - M = 0 := by omega
        rw [h1, Nat.sub_self]
        exact .slz
  · obtain ⟨⟨d, hd, hpos⟩, hK⟩ := h
    simp only [lenA, Option.some.injEq] at hn
    subst hn
    cases hx
    obtain rfl : l = 0 := by omega
    obtain rfl : h' = 0 := by omega
    have hu := und_of_slT hd
    refine ⟨_, _, hK, ?_, .v _⟩
    simp [Instr.sliceAt, Instr.slice, run_underlying hu, hbnd true 0 (Nat.le_refl _), run_sizeOf' hpos]
  · exact h.elim

theorem run_equal_bool {P : Program} {w : World} {t : TypeId} {a b : Bool} (hu : P.underlying t = some .bool) : (Op.equal t (.bool a) (.bool b)).run P w = .ok (a == b) w := by
  have key : ∀ d, (Op.equalIn (d + 1) t (.bool a) (.bool b)).run P w = .ok (a == b) w := by
    intro d
    rw [Op.equalIn]
    simp [run_underlying hu]
  exact key 9999
theorem RS.vv {s u : Value} (h : RS X β w (.v s) u) : u = s := by cases h; rfl

theorem args_vals {ρ : Operand → AV} {ρc : Operand → Value} (hρ : ∀ x, RS X β w (ρ x) (ρc x)) : ∀ (xs : List Operand) (vs : List Value), xs.map ρ = vs.map .v → xs.map ρc = vs
  | [], [], _ => rfl
  | [], _ :: _, h => by simp at h
  | _ :: _, [], h => by simp at h
  | x :: xs, v :: vs, h => by
    simp only [List.map_cons, List.cons.injEq] at h ⊢
    exact ⟨RS.vv (w := w) (X := X) (β := β) (h.1 ▸ hρ x), args_vals hρ xs vs h.2⟩

theorem max_sound {ρ : Operand → AV} {ρc : Operand → Value} {xs : Array Operand} {ts : Array TypeId} {ty : TypeId} {K : AV → Prop} (hρ : ∀ x, RS X β w (ρ x) (ρc x))
    (h : (match xs.toList.map ρ with
     | [.v (.int k a), .v (.int k1 b)] => K (.v (.int k (max a b)))
     | [.v (.int k a), .v (.int k1 b), .v (.int k2 c)] => K (.v (.int k (max (max a b) c)))
     | [.v (.int k a), .v (.int k1 b), .v (.int k2 c), .v (.int k3 d)] => K (.v (.int k (max (max (max a b) c) d)))
     | _ => False)) : ∃ r, K (.v r) ∧ (Builtin.max_ ts ty (xs.map ρc)).run P w = .ok r w := by
  have mx : ∀ a b : Int, (if b > a then b else a) = max a b := fun a b => by omega
  split at h
  · rename_i k a k1 b hc
    have e := args_vals (w := w) hρ xs.toList [.int k a, .int k1 b] hc
    exact ⟨_, h, by simp [Builtin.max_, Array.toList_map, e, Builtin.max2, mx]⟩
  · rename_i k a k1 b k2 c hc
    have e := args_vals (w := w) hρ xs.toList [.int k a, .int k1 b, .int k2 c] hc
    exact ⟨_, h, by simp [Builtin.max_, Array.toList_map, e, Builtin.max2, mx]⟩
  · rename_i k a k1 b k2 c k3 d hc
    have e := args_vals (w := w) hρ xs.toList [.int k a, .int k1 b, .int k2 c, .int k3 d] hc
    exact ⟨_, h, by simp [Builtin.max_, Array.toList_map, e, Builtin.max2, mx]⟩
  · exact h.elim

theorem min_sound {ρ : Operand → AV} {ρc : Operand → Value} {xs : Array Operand} {ts : Array TypeId} {ty : TypeId} {K : AV → Prop} (hρ : ∀ x, RS X β w (ρ x) (ρc x))
    (h : (match xs.toList.map ρ with
     | [.v (.int k a), .v (.int k1 b)] => K (.v (.int k (min a b)))
     | [.v (.int k a), .v (.int k1 b), .v (.int k2 c)] => K (.v (.int k (min (min a b) c)))
     | _ => False)) : ∃ r, K (.v r) ∧ (Builtin.min_ ts ty (xs.map ρc)).run P w = .ok r w := by
  have mn : ∀ a b : Int, (if b < a then b else a) = min a b := fun a b => by omega
  split at h
  · rename_i k a k1 b hc
    have e := args_vals (w := w) hρ xs.toList [.int k a, .int k1 b] hc
    exact ⟨_, h, by simp [Builtin.min_, Array.toList_map, e, Builtin.min2, mn]⟩
  · rename_i k a k1 b k2 c hc
    have e := args_vals (w := w) hρ xs.toList [.int k a, .int k1 b, .int k2 c] hc
    exact ⟨_, h, by simp [Builtin.min_, Array.toList_map, e, Builtin.min2, mn]⟩
  · exact h.elim

theorem qev_sound {ρ : Operand → AV} {ρc : Operand → Value} {H : Nat → Option Blk} {o : Oper} {K : AV → Prop} (hρ : ∀ x, RS X β w (ρ x) (ρc x))
    (hH : ∀ n k, H n = some k → OwnR X β w n k) (h : qev P ρ H o.op K) :
    ∃ av u, K av ∧ (execOp ρc o).run P w = .ok (.value u) w ∧ RS X β w av u := by
  obtain ⟨dst, op, type, pos, after, guard⟩ := o
  simp only at h
  unfold qev at h
  cases op
  case move x => exact ⟨_, _, h, rfl, hρ x⟩
  case assign x => exact ⟨_, _, h, rfl, hρ x⟩
  case pick c a b =>
    simp only at h
    have hc := hρ c
    split at h
    · rename_i z hz
      rw [hz] at hc
      generalize hv : ρc c = vc at hc
      cases hc
      cases z
      · exact ⟨_, _, h, by simp [execOp, hv, asBool], hρ b⟩
      · exact ⟨_, _, h, by simp [execOp, hv, asBool], hρ a⟩
    · exact h.elim
  case load t a =>
    simp only at h
    have ha := hρ a
    split at h
    · rename_i c j hc
      rw [hc] at ha
      generalize hv : ρc a = va at ha
      cases ha with
      | rp u hX hb hu hR =>
        obtain ⟨av, x, h1, h2, h3⟩ := run_loadVar' h hu hR
        exact ⟨av, x, h1, by simp [execOp, Instr.loadAt, hv, Instr.sureAddr, h2], h3⟩
    · rename_i n i j hc
      rw [hc] at ha
      generalize hv : ρc a = va at ha
      cases ha with
      | ptr hb =>
        split at h
        · rename_i k hk
          obtain ⟨ch, hi, hl⟩ := h
          obtain ⟨av, x, h1, h2, h3⟩ := loadK_own hb (hH _ _ hk) hi hl
          exact ⟨av, x, h1, by simp [execOp, Instr.loadAt, hv, Instr.sureAddr, h2], h3⟩
        · exact h.elim
    · exact h.elim
  case fieldAddr s x f =>
    simp only at h
    split at h
    case h_2 => exact h.elim
    rename_i o ft hf
    obtain ⟨fs, fd, hu, hfd, rfl, rfl⟩ := und_of_fldT hf
    obtain ⟨hz, h⟩ := h
    have hx := hρ x
    have key : ∀ b q : Nat, (Instr.fieldAt s (.pointer (some ⟨b, q, none⟩)) f).run P w = .ok (.pointer (some ⟨b, q + fd.offset, none⟩)) w := by
      intro b q
      have hz' : ¬ szT P fd.type = 0 := by omega
      simp [Instr.fieldAt, run_underlying hu, hfd, Instr.sureAddr, fieldPlace, run_sizeOf' hz, hz', addr_add]
    split at h
    · rename_i n i j hc
      rw [hc] at hx
      generalize hv : ρc x = va at hx
      cases hx with
      | ptr hb =>
        have r := RS.ptr (X := X) (w := w) (i := i) (j := j + fd.offset) hb
        rw [← Nat.add_assoc] at r
        exact ⟨_, _, h, by simp [execOp, hv, key], r⟩
    · rename_i c j hc
      rw [hc] at hx
      generalize hv : ρc x = va at hx
      cases hx with
      | rp u hX hb hu hR =>
        have r := RS.rp (j := j + fd.offset) u hX hb hu hR
        rw [← Nat.add_assoc] at r
        exact ⟨_, _, h, by simp [execOp, hv, key], r⟩
    · exact h.elim
  case indexAddr t x ix =>
    simp only at h
    split at h
    case h_2 => exact h.elim
    rename_i kk i hi
    have hix := (hρ ix).asI hi
    have hx := hρ x
    split at h
    · rename_i e hs
      have hu := und_of_slT hs
      split at h
      · rename_i z l hc
        rw [hc] at hx
        obtain ⟨⟨rfl, hz⟩, h0, ch, hch, hK⟩ := h
        have hlt : i.toNat < l.length := (List.getElem?_eq_some_iff.1 hch).1
        generalize hv : ρc x = va at hx
        cases hx with
        | ro0 => simp at hlt
        | ro u hX hb hl hd hu' hR =>
          rename_i b o cap
          refine ⟨_, .pointer (some ⟨b, o + i.toNat * szT P e, none⟩), hK, ?_, ?_⟩
          · have hb : 0 ≤ i ∧ i < (l.length : Int) := ⟨h0, by omega⟩
            simp only [execOp, hv, hix, Instr.indexAt, run_underlying hu, asIntOf, Sem.run_bind, Sem.run_pure, Result.andThen_ok, Sem.run_ite, if_pos hb, run_sizeOf' hz, addr_add]
          · have hcl : ch.length = szT P e := hd ch (List.mem_of_getElem? hch)
            have hle : (i.toNat + 1) * szT P e ≤ l.length * szT P e := Nat.mul_le_mul_right _ hlt
            rw [Nat.succ_mul] at hle
            refine .rp (o := o + i.toNat * szT P e) (j := 0) (fun q => u (i.toNat * szT P e + q)) hX hb (fun q hq => ?_) (fun q s hs => hR _ _ _ _ hch hs)
            rw [Nat.add_assoc]; exact hu' _ (by omega)
      · rename_i n i0 len hc
        rw [hc] at hx
        obtain ⟨⟨h0, hlt⟩, h⟩ := h
        split at h
        · rename_i k hk
          obtain ⟨⟨hke, hpos⟩, hK⟩ := h
          generalize hv : ρc x = va at hx
          cases hx with
          | slz => omega
          | sl hb hl hsh hcap =>
            rename_i cap b o e' m t'
            have he : e' = k.e := own_e hb (hH _ _ hk)
            subst he
            refine ⟨_, .pointer (some ⟨b, o + (i0 + i.toNat) * k.e + 0, none⟩), hK, ?_, .ptr hb⟩
            have hb : 0 ≤ i ∧ i < (len : Int) := ⟨h0, hlt⟩
            have hz : 0 < szT P e := by omega
            simp only [execOp, hv, hix, Instr.indexAt, run_underlying hu, asIntOf, Sem.run_bind, Sem.run_pure, Result.andThen_ok, Sem.run_ite, if_pos hb, run_sizeOf' hz, addr_add]
            rw [← hke, Nat.add_mul, ← Nat.add_assoc, Nat.add_zero]
        · exact h.elim
      · exact h.elim
    · rename_i m e _ ha
      have hu := und_of_arT ha
      obtain ⟨⟨h0, hm, hz⟩, h⟩ := h
      have hb : 0 ≤ i ∧ i < (m : Int) := ⟨h0, hm⟩
      have key : ∀ b q : Nat, (Instr.indexAt t (.pointer (some ⟨b, q, none⟩)) (.int kk i)).run P w = .ok (.pointer (some ⟨b, q + i.toNat * szT P e, none⟩)) w := by
        intro b q
        simp only [Instr.indexAt, run_underlying hu, asIntOf, Instr.sureAddr, Sem.run_bind, Sem.run_pure, Result.andThen_ok, Sem.run_ite, if_pos hb, run_sizeOf' hz, addr_add]
      split at h
      · rename_i n i0 j hc
        rw [hc] at hx
        generalize hv : ρc x = va at hx
        cases hx with
        | ptr hb =>
          have r := RS.ptr (X := X) (w := w) (i := i0) (j := j + i.toNat * szT P e) hb
          rw [← Nat.add_assoc] at r
          exact ⟨_, _, h, by simp [execOp, hv, hix, key], r⟩
      · rename_i c j hc
        rw [hc] at hx
        generalize hv : ρc x = va at hx
        cases hx with
        | rp u hX hb hu hR =>
          have r := RS.rp (j := j + i.toNat * szT P e) u hX hb hu hR
          rw [← Nat.add_assoc] at r
          exact ⟨_, _, h, by simp [execOp, hv, hix, key], r⟩
      · exact h.elim
    · exact h.elim
  case field t x f =>
    simp only at h
    have hx := hρ x
    split at h
    · rename_i o ft l hf hc
      obtain ⟨fs, fd, hu, hfd, rfl, rfl⟩ := und_of_fldT hf
      rw [hc] at hx
      generalize hv : ρc x = va at hx
      cases hx with
      | g hl hR =>
        obtain ⟨av, y, h1, h2, h3⟩ := run_part' (w := w) h hl hR
        exact ⟨av, y, h1, by simp [execOp, hv, Instr.field, run_underlying hu, hfd, asAgg, h2], h3⟩
    · exact h.elim
  case index t x ix =>
    simp only at h
    split at h
    case h_2 => exact h.elim
    rename_i kk i hi
    have hix := (hρ ix).asI hi
    have hx := hρ x
    split at h
    · rename_i l hc
      rw [hc] at hx
      split at h
      case h_2 => exact h.elim
      rename_i m e ha
      have hu := und_of_arT ha
      obtain ⟨⟨h0, hm, hz⟩, h⟩ := h
      have hb : 0 ≤ i ∧ i < (m : Int) := ⟨h0, hm⟩
      generalize hv : ρc x = va at hx
      cases hx with
      | g hl hR =>
        obtain ⟨av, y, h1, h2, h3⟩ := run_part' (w := w) h hl hR
        exact ⟨av, y, h1, by simp only [execOp, hv, hix, Instr.index, run_underlying hu, asIntOf, Sem.run_bind, Sem.run_pure, Result.andThen_ok, Sem.run_ite, if_pos hb, run_sizeOf' hz, h2], h3⟩
    · rename_i s hc
      rw [hc] at hx
      obtain ⟨hu, h0, b, hb, hK⟩ := h
      generalize hv : ρc x = va at hx
      cases hx
      exact ⟨_, _, hK, by simp [execOp, hv, hix, Instr.index, run_underlying hu, asIntOf, h0, hb], .v _⟩
    · exact h.elim
  case extract x ix =>
    simp only at h
    have hx := hρ x
    split at h
    · rename_i l hc
      rw [hc] at hx
      obtain ⟨a, ha, hK⟩ := h
      generalize hv : ρc x = va at hx
      cases hx with
      | t hl hR =>
        rename_i cs
        have hlt : ix < cs.size := by have := (List.getElem?_eq_some_iff.1 ha).1; omega
        exact ⟨a, cs[ix], hK, by simp [execOp, hv, Instr.extract, hlt], hR ix a _ ha (by simp [hlt])⟩
    · exact h.elim
  case binOp o t x y yt =>
    simp only at h
    have hx := hρ x; have hy := hρ y
    split at h
    · rename_i a b ha hb
      rw [ha] at hx; rw [hb] at hy
      generalize hv : ρc x = va at hx
      generalize hv' : ρc y = vb at hy
      cases hx; cases hy
      obtain ⟨hu, h⟩ := h
      unfold boolV at h
      split at h
      · exact ⟨_, _, h, by simp [execOp, hv, hv', eqGuard, binOp, run_equal_bool hu], .v _⟩
      · exact ⟨_, _, h, by simp [execOp, hv, hv', eqGuard, binOp, run_equal_bool hu], .v _⟩
      · exact h.elim
    · rename_i a b _ ha hb
      rw [ha] at hx; rw [hb] at hy
      generalize hv : ρc x = va at hx
      generalize hv' : ρc y = vb at hy
      cases hx; cases hy
      obtain ⟨r, hK, hr⟩ := binV_sound (P := P) (w := w) (t := t) (xo := x) (yo := y) h
      refine ⟨_, r, hK, ?_, .v _⟩
      simp only [Sem.run_bind] at hr
      simp only [execOp, hv, hv', Sem.run_bind, hr, Result.andThen_ok, Sem.run_pure]
    · rename_i l l' ha hb
      rw [ha] at hx; rw [hb] at hy
      generalize hv : ρc x = va at hx
      generalize hv' : ρc y = vb at hy
      unfold aggV at h
      split at h
      case h_2 => exact h.elim
      rename_i xs ys h1 h2
      obtain ⟨⟨hlen, hE⟩, hK⟩ := h
      cases hx with
      | g hl hR =>
        rename_i cs
        cases hy with
        | g hl' hR' =>
          rename_i cs'
          have e1 := intsA_rs (vs := cs.toList) h1 (by simpa using hl) (fun k s u hs hu => hR k s u hs (by simpa using hu))
          have e2 := intsA_rs (vs := cs'.toList) h2 (by simpa using hl') (fun k s u hs hu => hR' k s u hs (by simpa using hu))
          have e1' : cs = (xs.map fun x => Value.int .i64 x).toArray := by rw [← e1]
          have e2' : cs' = (ys.map fun x => Value.int .i64 x).toArray := by rw [← e2]
          subst e1'; subst e2'
          have hr := hE xs ys rfl hlen.symm w x y
          split at hK
          · refine ⟨_, _, hK, ?_, .v _⟩
            have hr := hr.1
            simp only [Sem.run_bind] at hr
            simp only [execOp, hv, hv', Sem.run_bind, hr, Result.andThen_ok, Sem.run_pure]
          · refine ⟨_, _, hK, ?_, .v _⟩
            have hr := hr.2
            simp only [Sem.run_bind] at hr
            simp only [execOp, hv, hv', Sem.run_bind, hr, Result.andThen_ok, Sem.run_pure]
          · exact hK.elim
    · exact h.elim
  case unOp o t x =>
    simp only at h
    have hx := hρ x
    split at h
    · rename_i k n _ hc
      rw [hc] at hx
      generalize hv : ρc x = va at hx
      cases hx
      exact ⟨_, _, h, by simp [execOp, hv, Op.unary, Op.intArith], .v _⟩
    · rename_i b _ hc
      rw [hc] at hx
      generalize hv : ρc x = va at hx
      cases hx
      exact ⟨_, _, h, by simp [execOp, hv, Op.unary], .v _⟩
    · exact h.elim
  case convert s d x =>
    simp only at h
    have hx := hρ x
    split at h
    · rename_i k0 n k hc hk
      rw [hc] at hx
      obtain ⟨hs, hK⟩ := h
      generalize hv : ρc x = va at hx
      cases hx
      obtain ⟨ds, hds⟩ := Option.isSome_iff_exists.mp hs
      exact ⟨_, _, hK, by simp [execOp, hv, convert, run_underlying hds, run_underlying (und_of_ikT hk), Conv.intToInt], .v _⟩
    · exact h.elim
  case makeFunc fn fst caps =>
    cases fn with
    | func f =>
      obtain ⟨rfl, hK⟩ := h
      refine ⟨_, _, hK, by simp [execOp, Instr.makeFunc]; rfl, .fn (by simp) fun k s u hs hu => ?_⟩
      simp only [List.getElem?_map, Array.getElem?_map, Array.getElem?_toList] at hs hu
      cases hc : caps[k]? with
      | none => simp [hc] at hs
      | some c => simp only [hc, Option.map_some, Option.some.injEq] at hs hu; subst hs; subst hu; exact hρ c
    | _ => exact h.elim
  case nilCheck x =>
    simp only at h
    have hx := hρ x
    split at h
    · rename_i n i j hc
      rw [hc] at hx
      generalize hv : ρc x = va at hx
      cases hx with
      | ptr hb => exact ⟨_, _, h, by simp [execOp, hv], .ptr hb⟩
    · rename_i c j hc
      rw [hc] at hx
      generalize hv : ρc x = va at hx
      cases hx with
      | rp u hX hb hu hR => exact ⟨_, _, h, by simp [execOp, hv], .rp u hX hb hu hR⟩
    · rename_i f c hc
      rw [hc] at hx
      generalize hv : ρc x = va at hx
      cases hx with
      | fn hl hR => exact ⟨_, _, h, by simp [execOp, hv], .fn hl hR⟩
    · exact h.elim
  case slice t x lo hi mx =>
    simp only at h
    split at h
    case h_2 => exact h.elim
    rename_i hp
    split at h
    case h_2 => exact h.elim
    rename_i har
    obtain ⟨av, u, h1, h2, h3⟩ := sliceK_sound hH (lo' := lo.map ρc) (hi' := hi.map ρc) (mx' := mx.map ρc) hp har (hρ x) (orel lo hρ) (orel hi hρ) (orel mx hρ) h
    exact ⟨av, u, h1, by simp [execOp, h2], h3⟩
  case build t parts =>
    simp only at h
    split at h
    case h_2 => exact h.elim
    rename_i z pl hz hpl
    obtain ⟨ti, zv, hti, hzv, hze⟩ : ∃ ti zv, P.info? t = some ti ∧ ti.zero = some zv ∧ zv.cells.toList = z := by
      unfold zeT at hz
      cases hi : P.info? t with
      | none => simp [hi] at hz
      | some ti =>
        cases hzv : ti.zero with
        | none => simp [hi, hzv] at hz
        | some zv => simp [hi, hzv] at hz; exact ⟨ti, zv, rfl, hzv, hz⟩
    have hzr : (zeroValue t).run P w = .ok zv w := by simp [zeroValue, typeInfo, hti, hzv]
    have hzl : (z.map AV.v).length = zv.cells.size := by simp [← hze]
    have hzR : ∀ (k : Nat) (s : AV) (u : Value), (z.map AV.v)[k]? = some s → zv.cells[k]? = some u → RS X β w s u := by
      intro k s u hs hu
      simp only [← hze, List.getElem?_map, Array.getElem?_toList, hu, Option.map_some, Option.some.injEq] at hs
      subst hs; exact .v _
    have hpp : ∀ (k : Nat) (p : Nat × AV) (q : Nat × Value), (parts.toList.map fun p => (p.1, ρ p.2))[k]? = some p → (parts.toList.map fun p => (p.1, ρc p.2))[k]? = some q → p.1 = q.1 ∧ RS X β w p.2 q.2 := by
      intro k p q hp hq
      simp only [List.getElem?_map, Option.map_eq_some_iff] at hp hq
      obtain ⟨a, ha, rfl⟩ := hp
      obtain ⟨b, hb, rfl⟩ := hq
      rw [ha] at hb; cases hb
      exact ⟨rfl, hρ _⟩
    obtain ⟨c, hf, hK⟩ := h
    unfold bldT at hpl
    split at hpl
    · rename_i fs hu
      split at hpl
      case isFalse => cases hpl
      rename_i hall; cases hpl
      obtain ⟨r, hr, hl, hR⟩ := fill_sound _ _ _ _ zv.cells (by simp) hpp hzl hzR hf
      refine ⟨_, .agg r, hK, ?_, .g hl hR⟩
      have hm : ∀ l : List Field, (∀ f ∈ l, 0 < szT P f.type) → (l.mapM (fun f => do pure (f.offset, ← sizeOf f.type) : Field → Sem (Nat × Nat))).run P w = .ok (l.map fun f => (f.offset, szT P f.type)) w := by
        intro l
        induction l with
        | nil => intro _; simp
        | cons f l ih =>
          intro hl
          rw [List.mapM_cons]
          simp only [Sem.run_bind, Sem.run_pure, run_sizeOf' (hl f (by simp)), Result.andThen_ok, ih (fun g hg => hl g (by simp [hg])), List.map_cons]
      have hm2 : (fs.mapM (fun f => do pure (f.offset, ← sizeOf f.type) : Field → Sem (Nat × Nat))).run P w = .ok (fs.map fun f => (f.offset, szT P f.type)) w := by
        rw [Array.mapM_eq_mapM_toList]
        have := hm fs.toList (fun f hf => by
          have := Array.all_eq_true'.1 hall f (by simpa using hf)
          simpa using this)
        simp only [Sem.run_map, this, Result.andThen_ok]
        congr 1
        apply Array.ext'; simp
      have hfl' : Instr.fill (fun i => (fs.map fun f => (f.offset, szT P f.type))[i]?) zv.cells (parts.map fun p => (p.1, ρc p.2)).toList = some r := by
        rw [← hr]; congr 1
        · funext i; simp
        · simp
      simp only [execOp, Instr.build, Sem.run_bind, hzr, Result.andThen_ok, run_underlying hu, hm2, Sem.run_pure]
      simp only [hfl']
      try rfl
    · rename_i n e hu
      split at hpl
      case isFalse => cases hpl
      rename_i hz0; cases hpl
      have hf' := fillA_more (place' := fun i => some (i * szT P e, szT P e)) (fun i x hx => by
        simp only [List.getElem?_map, Option.map_eq_some_iff] at hx
        obtain ⟨q, hq, rfl⟩ := hx
        rw [List.getElem?_range (by have := (List.getElem?_eq_some_iff.1 hq).1; simpa using this)] at hq
        cases hq; rfl) _ _ _ hf
      obtain ⟨r, hr, hl, hR⟩ := fill_sound _ _ _ _ zv.cells (by simp) hpp hzl hzR hf'
      refine ⟨_, .agg r, hK, ?_, .g hl hR⟩
      have hfl' : Instr.fill (fun i => some (i * szT P e, szT P e)) zv.cells (parts.map fun p => (p.1, ρc p.2)).toList = some r := by
        rw [← hr]; congr 1; simp
      simp only [execOp, Instr.build, Sem.run_bind, hzr, Result.andThen_ok, run_underlying hu, run_sizeOf' hz0, Sem.run_pure, hfl']
      try rfl
    · cases hpl
  case call c =>
    obtain ⟨callee, args, ats⟩ := c
    cases callee with
    | builtin b =>
      cases b
      case len =>
        simp only at h
        split at h
        case h_2 => exact h.elim
        rename_i x t hx ht
        obtain rfl : args = #[x] := by apply Array.ext'; simp [hx]
        obtain rfl : ats = #[t] := by apply Array.ext'; simp [ht]
        have hxr := hρ x
        split at h
        · rename_i e he
          have hu := und_of_slT he
          have key : ∀ a n c, (Builtin.len_ #[t] type #[Value.slice a n c]).run P w = .ok (goInt n) w := by
            intro a n c; simp [Builtin.len_, run_underlying hu]
          split at h
          · exact h.elim
          obtain ⟨n, hn, hK⟩ := h
          rename_i hns
          generalize hv : ρc x = va at hxr
          generalize ρ x = ra at hxr hn hns
          cases hxr with
          | v =>
            cases va <;> simp [lenA] at hn
            · exact (hns _ rfl).elim
            · subst hn; exact ⟨_, _, hK, by simp [execOp, resolve, invoke, builtin, hv, key], .v _⟩
          | sl hb hl hsh hc => simp [lenA] at hn; subst hn; exact ⟨_, _, hK, by simp [execOp, resolve, invoke, builtin, hv, key], .v _⟩
          | slz => simp [lenA] at hn; subst hn; exact ⟨_, _, hK, by simp [execOp, resolve, invoke, builtin, hv, key], .v _⟩
          | ez => simp [lenA] at hn; subst hn; exact ⟨_, _, hK, by simp [execOp, resolve, invoke, builtin, hv, key], .v _⟩
          | ro0 => simp [lenA] at hn; subst hn; exact ⟨_, _, hK, by simp [execOp, resolve, invoke, builtin, hv, key], .v _⟩
          | ro u hX hb hl hd hu' hR => simp [lenA] at hn; subst hn; exact ⟨_, _, hK, by simp [execOp, resolve, invoke, builtin, hv, key], .v _⟩
          | _ => simp [lenA] at hn
        · obtain ⟨hu, h⟩ := h
          split at h
          · rename_i s hc
            rw [hc] at hxr
            generalize hv : ρc x = va at hxr
            cases hxr
            exact ⟨_, _, h, by simp [execOp, resolve, invoke, builtin, hv, Builtin.len_, run_underlying hu], .v _⟩
          · exact h.elim
      case max =>
        simp only at h
        obtain ⟨r, hK, hr⟩ := max_sound (P := P) (ts := ats) (ty := type) hρ h
        exact ⟨_, r, hK, by simp [execOp, resolve, invoke, builtin, hr], .v _⟩
      case min =>
        simp only at h
        obtain ⟨r, hK, hr⟩ := min_sound (P := P) (ts := ats) (ty := type) hρ h
        exact ⟨_, r, hK, by simp [execOp, resolve, invoke, builtin, hr], .v _⟩
      all_goals exact h.elim
    | _ => exact h.elim
  all_goals exact h.elim
end
end Go.Eng
