/- The engine, part H: append's answer. -/
import Derived.Test.YtdhdopmjaibggaaEngG
set_option linter.unusedSimpArgs false
set_option linter.unusedVariables false
namespace Go.Eng
open Go Go.RowKit

theorem growBy_le (n : Nat) : ∀ (r c : Nat), c ≤ n → Builtin.growBy n r c ≤ n + (n + 768) / 4
  | 0, c, h => by simp only [Builtin.growBy]; omega
  | r + 1, c, h => by
    simp only [Builtin.growBy]
    split
    · omega
    · by_cases h' : c + (c + 768) / 4 ≤ n
      · exact growBy_le n r _ h'
      · cases r with
        | zero => simp only [Builtin.growBy]; omega
        | succ r => simp only [Builtin.growBy]; rw [if_pos (by omega)]; omega

theorem next_le (n c : Nat) (h : c < n) : Builtin.nextslicecap n c ≤ 2 * n + 192 := by
  unfold Builtin.nextslicecap
  split
  · omega
  · split
    · omega
    · have := growBy_le n 4 c (by omega); omega

section
variable {P : Program} {w : World}

theorem int_no {d : TypeDesc} {t : TypeId} (h : ikT P t = none) (hu : P.underlying t = some d) : ((some d : Option TypeDesc) matches some (.int _)) = false ∧ (match d with | .int _ => true | _ => false) = false := by
  unfold ikT at h
  rw [hu] at h
  cases d <;> simp_all

theorem run_append_in {sT e xT ty : TypeId} {d : TypeDesc} (hu : P.underlying sT = some (.slice e)) (hx : P.underlying xT = some d) (hni : ikT P xT = none) (hz : 0 < szT P e)
    {base : Option Addr} {len cap m : Nat} {x : Value} {cs : Array Value} (hlen : (Builtin.lenOf x).run P w = .ok m w) (hneed : len + m ≤ cap) (hfc : (Builtin.firstCells (szT P e) m x).run P w = .ok cs w)
    {w' : World} (hst : (match base with | some a => (storeCells (a.add (len * szT P e)) cs.toList).run P w | none => .ok () w) = .ok () w') :
    (Builtin.append_ #[sT, xT] ty #[.slice base len cap, x]).run P w = .ok (.slice base (len + m) cap) w' := by
  have hd := (int_no hni hx).2
  cases base with
  | none =>
    simp only at hst; cases hst
    simp only [Builtin.append_, List.getElem?_toArray, List.getElem?_cons_zero, List.getElem?_cons_succ, Sem.run_bind, run_underlying hu, run_underlying hx, Result.andThen_ok, Sem.run_pure, run_sizeOf' hz]
    cases d <;> first
      | (simp at hd; done)
      | (simp only [Sem.run_bind, Sem.run_pure, Bool.false_eq_true, if_false, hlen, Result.andThen_ok, Sem.run_ite, if_pos hneed, Bool.not_false, if_true, hfc])
  | some a =>
    simp only at hst
    simp only [Builtin.append_, List.getElem?_toArray, List.getElem?_cons_zero, List.getElem?_cons_succ, Sem.run_bind, run_underlying hu, run_underlying hx, Result.andThen_ok, Sem.run_pure, run_sizeOf' hz]
    cases d <;> first
      | (simp at hd; done)
      | (simp only [Sem.run_bind, Sem.run_pure, Bool.false_eq_true, if_false, hlen, Result.andThen_ok, Sem.run_ite, if_pos hneed, Bool.not_false, if_true, hfc, hst])

theorem run_append_out {sT e xT ty : TypeId} {d : TypeDesc} (hu : P.underlying sT = some (.slice e)) (hx : P.underlying xT = some d) (hni : ikT P xT = none) (hz : 0 < szT P e) (hby : byT P e ≤ 64)
    {zl : List Value} (hzl : zeT P e = some zl) (hzs : zl.length = szT P e)
    {base : Option Addr} {len cap m : Nat} {x : Value} {old cs : Array Value} (hlen : (Builtin.lenOf x).run P w = .ok m w) (hneed : cap < len + m) (hbig : len + m ≤ 1099511627776)
    (hold : ∀ w', w'.heap = w.heap → (Builtin.firstCells (szT P e) len (.slice base len cap)).run P w' = .ok old w') (hfc : ∀ w', w'.heap = w.heap → (Builtin.firstCells (szT P e) m x).run P w' = .ok cs w') :
    ∃ nc rest w1, len + m ≤ nc ∧ rest.size = (nc - (len + m)) * szT P e ∧ w1.os = w.os ∧ w1.tape = w.tape ∧ w1.output = w.output ∧ w1.heap = w.heap.push (.cells (old ++ cs ++ rest) e (0, 0)) ∧
      (Builtin.append_ #[sT, xT] ty #[.slice base len cap, x]).run P w = .ok (.slice (some ⟨w.heap.size, 0, none⟩) (len + m) nc) w1 := by
  have hd := (int_no hni hx).2
  obtain ⟨ti, hti, hsz⟩ : ∃ ti, P.info? e = some ti ∧ ti.bytes = byT P e := by
    unfold szT at hz; unfold byT
    cases hi : P.info? e with
    | none => simp [hi] at hz
    | some ti => exact ⟨ti, rfl, by simp⟩
  have hti' : ∀ w', (typeInfo e).run P w' = .ok ti w' := fun w' => by simp [typeInfo, hti]
  have hmax : IntKind.i64.max = 9223372036854775807 := rfl
  have hn1 : ¬ (((len + m : Nat) : Int) > IntKind.i64.max ∧ (False ∨ ti.bytes = 0)) := by rw [hmax]; omega
  have hnx := next_le (len + m) cap hneed
  have hn2 : ¬ Builtin.nextslicecap (len + m) cap * ti.bytes > 2 ^ 48 := by
    have : Builtin.nextslicecap (len + m) cap * ti.bytes ≤ (2 * (len + m) + 192) * 64 := Nat.mul_le_mul hnx (by omega)
    omega
  have hn3 : ¬ (len + m ≤ cap) := by omega
  refine ⟨len + m + w.tape w.drawn (.appendCap (len + m) cap e) % (2 ^ 63 - (len + m)), Builtin.zeroCells zl.toArray (w.tape w.drawn (.appendCap (len + m) cap e) % (2 ^ 63 - (len + m))), { w with drawn := w.drawn + 1, heap := w.heap.push _ }, by omega, ?_, rfl, rfl, rfl, rfl, ?_⟩
  · simp [Builtin.zeroCells, hzs]
  · have hz' : ∀ w', ∃ zv, (zeroValue e).run P w' = .ok zv w' ∧ zv.cells = zl.toArray := fun w' => by
      obtain ⟨zv, h1, h2⟩ := zeT_run (P := P) (w := w') hzl
      exact ⟨zv, h1, by rw [← h2]⟩
    obtain ⟨zv, hz1, hz2⟩ := hz' { w with drawn := w.drawn + 1 }
    have ho := hold { w with drawn := w.drawn + 1 } rfl
    have hc := hfc { w with drawn := w.drawn + 1 } rfl
    have hsub : len + m + w.tape w.drawn (.appendCap (len + m) cap e) % (2 ^ 63 - (len + m)) - (len + m) = w.tape w.drawn (.appendCap (len + m) cap e) % (2 ^ 63 - (len + m)) := by omega
    have hzm : (match (some (d : TypeDesc)) with | some (.int _) => true | _ => false) = false := by cases d <;> simp_all
    simp only [Builtin.append_, List.getElem?_toArray, List.getElem?_cons_zero, List.getElem?_cons_succ, Sem.run_bind, run_underlying hu, run_underlying hx, Result.andThen_ok, Sem.run_pure, run_sizeOf' hz]
    cases d <;> first
      | (simp at hd; done)
      | (simp only [Sem.run_bind, Sem.run_pure, Bool.false_eq_true, if_false, hlen, Result.andThen_ok, Sem.run_ite, if_neg hn3, hti', if_neg hn1, if_neg hn2, run_choose, Question.forced, Question.cut, run_askRoom, ho, hc, hz1, hz2, hsub, newRow, run_newObj, Bool.not_false, if_true]
         try rfl)
end

section
variable {C : Ctx} {s : AState} {β : Bt} {a : Act} {w : World}

theorem Row.append {X : Nat → Prop} {z : Nat} {l m : List (List AV)} {c d : Array Value} (h : Row X β w z l c) (k : Row X β w z m d) : Row X β w z (l ++ m) (c ++ d) := by
  refine ⟨fun x hx => (List.mem_append.1 hx).elim (h.1 x) (k.1 x), by simp [h.2.1, k.2.1, Nat.add_mul], fun i j x s' hi hj => ?_⟩
  by_cases hil : i < l.length
  · rw [List.getElem?_append_left hil] at hi
    obtain ⟨u, hu, hr⟩ := h.2.2 i j x s' hi hj
    exact ⟨u, by rw [Array.getElem?_append_left (Array.getElem?_eq_some_iff.1 hu).1]; exact hu, hr⟩
  · rw [List.getElem?_append_right (by omega)] at hi
    obtain ⟨u, hu, hr⟩ := k.2.2 _ j x s' hi hj
    have he : (i - l.length) * z + l.length * z = i * z := by rw [← Nat.add_mul]; congr 1; omega
    refine ⟨u, ?_, hr⟩
    rw [Array.getElem?_append_right (by rw [h.2.1]; omega), h.2.1]
    rw [← hu]; congr 1; omega

theorem Row.one {X : Nat → Prop} {z : Nat} {l : List (List AV)} {cs : Array Value} (h : Row X β w z l cs) (hz : 0 < z) (ho : ∀ c ∈ l, ∀ s ∈ c, oneA s = true) : ∀ v ∈ cs.toList, v.oneCell' = true := by
  intro v hv
  obtain ⟨q, hq⟩ := List.getElem?_of_mem hv
  rw [Array.getElem?_toList] at hq
  obtain ⟨c, s', h1, h2, hr⟩ := h.get q v hq hz
  exact hr.one (ho c (List.mem_of_getElem? h1) s' (List.mem_of_getElem? h2))

theorem Row.newR {X : Nat → Prop} {z : Nat} {l : List (List AV)} {cs rest : Array Value} (h : Row X β w z l cs) : NewR X β w ⟨z, l⟩ (cs ++ rest) :=
  ⟨h.1, by simp [h.2.1], fun i j c s' hi hj => by
    obtain ⟨u, hu, hr⟩ := h.2.2 i j c s' hi hj
    exact ⟨u, by rw [Array.getElem?_append_left (Array.getElem?_eq_some_iff.1 hu).1]; exact hu, hr⟩⟩

theorem Row.anti {X X' : Nat → Prop} {z : Nat} {l : List (List AV)} {cs : Array Value} (hX : ∀ b, X' b → X b) (h : Row X β w z l cs) : Row X' β w z l cs :=
  ⟨h.1, h.2.1, fun i j c s' hi hj => by obtain ⟨u, hu, hr⟩ := h.2.2 i j c s' hi hj; exact ⟨u, hu, hr.anti hX⟩⟩

theorem XOf_drop {F : Nat → Prop} {h : List (Nat × Blk)} {ns : List Nat} (b : Nat) (hb : XOf F β (dropN ns h) b) : XOf F β h b := by
  rcases hb with hb | ⟨p, hp, r⟩
  · exact .inl hb
  · exact .inr ⟨p, (mem_dropN.1 hp).1, r⟩

/-- A new array for what is appended. -/
theorem ap_out (h : StR C s β a w) (ns : List Nat) {z : Nat} {l : List (List AV)} {cs rest : Array Value} {e : TypeId} {w1 : World} {nc : Nat} (hrow : Row (XOf C.F β s.h) β w z l cs)
    (hrest : rest.size = (nc - l.length) * z) (hnc : l.length ≤ nc) (h1 : w1.os = w.os) (h2 : w1.tape = w.tape) (h3 : w1.output = w.output) (h4 : w1.heap = w.heap.push (.cells (cs ++ rest) e (0, 0))) :
    ∃ β', StR C (pushA { s with h := dropN ns s.h } ⟨z, l⟩) β' a w1 ∧
      RS (XOf C.F β' (pushA { s with h := dropN ns s.h } ⟨z, l⟩).h) β' w1 (.sl s.k 0 l.length) (.slice (some ⟨w.heap.size, 0, none⟩) l.length nc) ∧ (∀ q, q ≠ s.k → β' q = β q) := by
  have hd := (h.drop ns).push (k := ⟨z, l⟩) (c := cs ++ rest) (t := e) (hrow.anti fun b hb => XOf_drop b hb).newR
  refine ⟨_, hd.same (w' := w1) h1 h2 h3 h4, ?_, fun q hq => by simp [updB, hq]⟩
  have := RS.sl (X := XOf C.F (updB β s.k (w.heap.size, 0, z)) (pushA { s with h := dropN ns s.h } ⟨z, l⟩).h) (β := updB β s.k (w.heap.size, 0, z)) (w := w1) (n := s.k) (i := 0) (len := l.length) (cap := nc) (b := w.heap.size) (o := 0) (e := z) (m := (cs ++ rest).size) (t := e)
    (by simp [updB]) hnc (by simp [World.shape?, h4]) (by
      simp [hrow.2.1, hrest, ← Nat.add_mul]
      exact Nat.mul_le_mul_right _ (by omega))
  simpa using this

theorem inplace_get {c cs : Array Value} {u : Nat → Value} {base n q : Nat} (h1 : ∀ q, q < n → c[base + q]? = some (u q)) (hq : q < n + cs.size) (hb : base + n + cs.size ≤ c.size) :
    (c.toList.take (base + n + 0) ++ cs.toList ++ c.toList.drop (base + n + 0 + cs.toList.length)).toArray[base + q]? = (((List.range n).map u).toArray ++ cs)[q]? := by
  simp only [List.getElem?_toArray, Nat.add_zero, List.append_assoc]
  have hpos : base + n ≤ c.toList.length := by simp; omega
  by_cases hqn : q < n
  · rw [List.getElem?_append_left (by simp; omega), List.getElem?_take_of_lt (by omega)]
    rw [Array.getElem?_append_left (by simpa using hqn)]
    simp only [Array.getElem?_toList, h1 q hqn, List.getElem?_toArray, List.getElem?_map]
    rw [List.getElem?_range hqn]; rfl
  · rw [List.getElem?_append_right (by simp; omega)]
    simp only [List.length_take, Nat.min_eq_left hpos]
    rw [List.getElem?_append_left (by simp; omega)]
    rw [Array.getElem?_append_right (by simpa using Nat.le_of_not_lt hqn)]
    simp only [Array.getElem?_toList, List.size_toArray, List.length_map, List.length_range]
    congr 1; omega

set_option maxHeartbeats 2000000 in
theorem apK_sound (h : StR C s β a w) {o : Oper} {xs : Array Operand} {ts : Array TypeId} (ho : o.op = .call ⟨.builtin .append, xs, ts⟩) {K : List Nat → Nat → List (List AV) → Prop}
    (hs : apK C.P (evA s.t) (find s.h) xs.toList ts.toList K) :
    ∃ ns z l u w' β', K ns z l ∧ (execOp a.eval o).run C.P w = .ok (.value u) w' ∧ StR C (pushA { s with h := dropN ns s.h } ⟨z, l⟩) β' a w' ∧
      RS (XOf C.F β' (pushA { s with h := dropN ns s.h } ⟨z, l⟩).h) β' w' (.sl s.k 0 l.length) u ∧ (∀ q, q ≠ s.k → β' q = β q) := by
  unfold apK at hs
  split at hs
  case h_2 => exact hs.elim
  rename_i x1 x2 t1 t2 hxs hts
  obtain rfl : xs = #[x1, x2] := by apply Array.ext'; simp [hxs]
  obtain rfl : ts = #[t1, t2] := by apply Array.ext'; simp [hts]
  split at hs
  case h_2 => exact hs.elim
  rename_i e he hni
  obtain ⟨⟨hz, hby, hze⟩, hd2, hs⟩ := hs
  obtain ⟨zl, hzl, hzs⟩ : ∃ zl, zeT C.P e = some zl ∧ zl.length = szT C.P e := by
    cases hq : zeT C.P e with
    | none => simp [hq] at hze
    | some zl => simp [hq] at hze; exact ⟨zl, rfl, hze⟩
  obtain ⟨d2, hd2⟩ := Option.isSome_iff_exists.mp hd2
  have hu := und_of_slT he
  have hv1 := h.read x1
  have hv2 := h.read x2
  have hrun : ∀ u w', (Builtin.append_ #[t1, t2] o.type #[a.eval x1, a.eval x2]).run C.P w = .ok u w' → (execOp a.eval o).run C.P w = .ok (.value u) w' := by
    intro u w' hr
    obtain ⟨_, op, _, _, _, _⟩ := o
    simp only at ho; subst ho
    simp [execOp, resolve, invoke, builtin, hr]
  unfold dstK at hs
  split at hs
  · rename_i n i len hx1
    rw [hx1] at hv1
    split at hs
    case h_2 => exact hs.elim
    rename_i k hk
    obtain ⟨hke, hle, hs⟩ := hs
    obtain ⟨l, cs, ⟨hbig, hone, hK⟩, hlen, hfc, hrow⟩ := srcK_sound h hv2 hs
    have hdl : (takeA i len k.l).length = len := by rw [takeA_eq]; simp; omega
    rw [hdl] at hbig
    generalize hv : a.eval x1 = va at hv1 hrun
    cases hv1 with
    | slz =>
      rename_i ad
      have hd0 : takeA i 0 k.l = [] := List.eq_nil_of_length_eq_zero hdl
      rw [hd0, List.nil_append] at hK
      by_cases hl0 : l.length = 0
      · have hl0' : l = [] := List.eq_nil_of_length_eq_zero hl0
        subst hl0'
        have hcs : cs = #[] := by have := hrow.2.1; simp at this; exact this
        subst hcs
        have hr := run_append_in (P := C.P) (w := w) (ty := o.type) hu hd2 hni hz (base := ad) (len := 0) (cap := 0) hlen (by simp) (hfc w rfl) (w' := w) (by cases ad <;> simp [storeCells])
        have hd' := (h.drop [n]).addNil (szT C.P e)
        exact ⟨_, _, _, _, w, β, hK, hrun _ _ hr, hd', .slz, fun _ _ => rfl⟩
      · obtain ⟨nc, rest, w1, q1, q2, q3, q4, q5, q6, q7⟩ := run_append_out (P := C.P) (w := w) (ty := o.type) hu hd2 hni hz hby hzl hzs (base := ad) (len := 0) (cap := 0) (old := #[]) hlen (by omega) (by omega)
          (fun w' _ => by cases ad <;> simp [Builtin.firstCells, loadCells, loadCellsFrom]) hfc
        simp only [Array.empty_append, Nat.zero_add] at q6 q1 q2 q7
        obtain ⟨β', r1, r2, r3⟩ := ap_out h [n] hrow q2 q1 q3 q4 q5 q6
        exact ⟨_, _, _, _, w1, β', hK, hrun _ _ q7, r1, r2, r3⟩
    | sl hb hl hsh hcap =>
      rename_i cap b o' e' m t
      have he' := own_e hb (h.look n k hk)
      subst he'
      obtain ⟨u, hu1, hu2⟩ := own_row h hk hle hb
      rw [hke] at hu1 hu2
      have hrow2 : Row (XOf C.F β s.h) β w (szT C.P e) (takeA i len k.l ++ l) (((List.range (len * szT C.P e)).map u).toArray ++ cs) := hu2.append hrow
      have hll : (takeA i len k.l ++ l).length = len + l.length := by simp [hdl]
      by_cases hin : len + l.length ≤ cap
      · -- in place
        rcases h.look n k hk with ⟨b', o'', c, t', p1, p2, p3, p4, p5⟩ | ⟨p1, p2⟩
        · rw [p1] at hb; cases hb
          have hcm : m = c.size ∧ t = t' := by simp only [World.shape?, p2, Option.some.injEq, Prod.mk.injEq] at hsh; exact ⟨hsh.2.symm, hsh.1.symm⟩
          obtain ⟨rfl, rfl⟩ := hcm
          have hcs : cs.size = l.length * szT C.P e := hrow.2.1
          have hmul : (i + (len + l.length)) * k.e ≤ (i + cap) * k.e := Nat.mul_le_mul_right _ (by omega)
          rw [Nat.add_mul, Nat.add_mul] at hmul
          have hst := run_storeCells_at C.P b (o' + i * k.e + len * szT C.P e) t cs.toList 0 c w p2 (by simp [hcs]; rw [hke] at hcap hmul ⊢; omega) (hrow.one hz hone)
          have hr := run_append_in (P := C.P) (w := w) (ty := o.type) hu hd2 hni hz (base := some ⟨b, o' + i * k.e, none⟩) (len := len) (cap := cap) hlen hin (hfc w rfl) (by simp only [addr_add]; exact hst)
          have hren := h.rename (o' := o' + i * k.e) (k' := ⟨szT C.P e, takeA i len k.l ++ l⟩) (w' := w.setRow b (c.toList.take (o' + i * k.e + len * szT C.P e + 0) ++ cs.toList ++ c.toList.drop (o' + i * k.e + len * szT C.P e + 0 + cs.toList.length)).toArray) hk p1 p2 (setRow_heap w b c _ t _ p2)
            (by simp [hcs]; rw [hke] at hcap hmul ⊢; omega) (fun q hq => setRow_other w b q _ hq) (setRow_size _ _ _) rfl rfl rfl hrow2.1 (by
              show o' + i * k.e + (takeA i len k.l ++ l).length * szT C.P e ≤ _
              rw [hll, Nat.add_mul]; simp [hcs]; rw [hke] at hcap hmul ⊢; omega) (fun i' j ch s' hi hj => by
              obtain ⟨v, hv, hr⟩ := hrow2.2.2 i' j ch s' hi hj
              refine ⟨v, ?_, hr⟩
              have hlv := (Array.getElem?_eq_some_iff.1 hv).1
              have hg := inplace_get (c := c) (cs := cs) (u := u) (base := o' + i * k.e) (n := len * szT C.P e) (q := i' * szT C.P e + j) (fun q hq => by
                have := hu1 q hq
                rw [← hke] at this
                simpa [World.cell?, p2] using this) (by simpa using hlv) (by rw [hcs]; rw [hke] at hcap hmul ⊢; omega)
              rw [← Nat.add_assoc, hv] at hg
              exact hg)
          refine ⟨_, _, _, _, _, _, hK, hrun _ _ hr, hren, ?_, fun q hq => by simp [updB, hq]⟩
          have hsz' : ∀ q t'' m', w.shape? q = some (t'', m') → q = b → True := fun _ _ _ _ _ => trivial
          rw [hll]
          have := RS.sl (X := XOf C.F (updB β s.k (b, o' + i * k.e, szT C.P e)) (pushA { s with h := dropN [n] s.h } ⟨szT C.P e, takeA i len k.l ++ l⟩).h) (β := updB β s.k (b, o' + i * k.e, szT C.P e))
            (w := w.setRow b (c.toList.take (o' + i * k.e + len * szT C.P e + 0) ++ cs.toList ++ c.toList.drop (o' + i * k.e + len * szT C.P e + 0 + cs.toList.length)).toArray)
            (n := s.k) (i := 0) (len := len + l.length) (cap := cap) (b := b) (o := o' + i * k.e) (e := szT C.P e) (m := c.size) (t := t) (by simp [updB]) hin
            (by simp only [World.shape?, setRow_heap w b c _ t _ p2]; simp [hcs]; rw [hke] at hcap hmul ⊢; omega) (by rw [hke] at hcap ⊢; rw [Nat.add_mul] at hcap; simp; omega)
          simpa using this
        · rw [hb] at p2; cases p2
      · obtain ⟨nc, rest, w1, q1, q2, q3, q4, q5, q6, q7⟩ := run_append_out (P := C.P) (w := w) (ty := o.type) hu hd2 hni hz hby hzl hzs (base := some ⟨b, o' + i * k.e, none⟩) (len := len) (cap := cap) hlen (by omega) (by omega)
          (fun w' hw => run_firstCells (w := w') u fun q hq => by rw [cell_of_heap (w := w) (by rw [hw]), hke]; exact hu1 q hq) hfc
        obtain ⟨β', r1, r2, r3⟩ := ap_out h [n] hrow2 (by rw [hll]; exact q2) (by rw [hll]; exact q1) q3 q4 q5 q6
        rw [hll] at r2
        exact ⟨_, _, _, _, w1, β', hK, hrun _ _ q7, r1, by rw [hll]; exact r2, r3⟩
  · rename_i hx1
    rw [hx1] at hv1
    obtain ⟨l, cs, ⟨hbig, hone, hK⟩, hlen, hfc, hrow⟩ := srcK_sound h hv2 hs
    rw [List.nil_append] at hK
    generalize hv : a.eval x1 = va at hv1 hrun
    cases hv1
    by_cases hl0 : l.length = 0
    · have hl0' : l = [] := List.eq_nil_of_length_eq_zero hl0
      subst hl0'
      have hcs : cs = #[] := by have := hrow.2.1; simp at this; exact this
      subst hcs
      have hr := run_append_in (P := C.P) (w := w) (ty := o.type) hu hd2 hni hz (base := none) (len := 0) (cap := 0) hlen (by simp) (hfc w rfl) (w' := w) rfl
      have hd' := (h.drop []).addNil (szT C.P e)
      exact ⟨_, _, _, _, w, β, hK, hrun _ _ hr, hd', .slz, fun _ _ => rfl⟩
    · obtain ⟨nc, rest, w1, q1, q2, q3, q4, q5, q6, q7⟩ := run_append_out (P := C.P) (w := w) (ty := o.type) hu hd2 hni hz hby hzl hzs (base := none) (len := 0) (cap := 0) (old := #[]) hlen (by omega) (by simp at hbig; omega)
        (fun w' _ => by simp [Builtin.firstCells]) hfc
      simp only [Array.empty_append, Nat.zero_add] at q6 q1 q2 q7
      obtain ⟨β', r1, r2, r3⟩ := ap_out h [] hrow q2 q1 q3 q4 q5 q6
      exact ⟨_, _, _, _, w1, β', hK, hrun _ _ q7, r1, r2, r3⟩
  · rename_i hx1
    rw [hx1] at hv1
    obtain ⟨l, cs, ⟨hbig, hone, hK⟩, hlen, hfc, hrow⟩ := srcK_sound h hv2 hs
    rw [List.nil_append] at hK
    generalize hv : a.eval x1 = va at hv1 hrun
    cases hv1
    rename_i ad
    by_cases hl0 : l.length = 0
    · have hl0' : l = [] := List.eq_nil_of_length_eq_zero hl0
      subst hl0'
      have hcs : cs = #[] := by have := hrow.2.1; simp at this; exact this
      subst hcs
      have hr := run_append_in (P := C.P) (w := w) (ty := o.type) hu hd2 hni hz (base := ad) (len := 0) (cap := 0) hlen (by simp) (hfc w rfl) (w' := w) (by cases ad <;> simp [storeCells])
      have hd' := (h.drop []).addNil (szT C.P e)
      exact ⟨_, _, _, _, w, β, hK, hrun _ _ hr, hd', .slz, fun _ _ => rfl⟩
    · obtain ⟨nc, rest, w1, q1, q2, q3, q4, q5, q6, q7⟩ := run_append_out (P := C.P) (w := w) (ty := o.type) hu hd2 hni hz hby hzl hzs (base := ad) (len := 0) (cap := 0) (old := #[]) hlen (by omega) (by simp at hbig; omega)
        (fun w' _ => by cases ad <;> simp [Builtin.firstCells, loadCells, loadCellsFrom]) hfc
      simp only [Array.empty_append, Nat.zero_add] at q6 q1 q2 q7
      obtain ⟨β', r1, r2, r3⟩ := ap_out h [] hrow q2 q1 q3 q4 q5 q6
      exact ⟨_, _, _, _, w1, β', hK, hrun _ _ q7, r1, r2, r3⟩
  · exact hs.elim
end
end Go.Eng
