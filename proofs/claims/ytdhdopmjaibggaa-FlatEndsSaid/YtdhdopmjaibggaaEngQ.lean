/- The engine, part Q: the rule for a region that draws its order, and for weakening. -/
import Derived.Test.YtdhdopmjaibggaaEngP
set_option linter.unusedSimpArgs false
set_option linter.unusedVariables false
namespace Go.Eng
open Go Go.RowKit

theorem usesT_mem {o : Oper} {t : Nat} (h : Operand.tmp t ∈ o.op.operands.toList) : t ∈ usesT o := by
  unfold usesT
  rw [List.mem_filterMap]
  exact ⟨.tmp t, h, rfl⟩

theorem nodup_len {m : Nat} : ∀ {l : List Nat}, l.Nodup → (∀ i ∈ l, i < m) → l.length ≤ m := by
  induction m with
  | zero =>
    intro l _ hlt
    cases l with
    | nil => simp
    | cons x r => exact absurd (hlt x List.mem_cons_self) (by omega)
  | succ m ih =>
    intro l hnd hlt
    by_cases hm : m ∈ l
    · have h1 := ih (l := l.erase m) (hnd.erase m) (fun i hi => by
        have h2 := hlt i (List.mem_of_mem_erase hi)
        have h3 : i ≠ m := fun e => by subst e; exact (hnd.not_mem_erase) hi
        omega)
      rw [List.length_erase_of_mem hm] at h1
      omega
    · have := ih (l := l) hnd (fun i hi => by
        have h2 := hlt i hi
        have h3 : i ≠ m := fun e => hm (e ▸ hi)
        omega)
      omega

theorem len_ge {m : Nat} : ∀ {l : List Nat}, (∀ j, j < m → j ∈ l) → m ≤ l.length := by
  induction m with
  | zero => intro l _; omega
  | succ m ih =>
    intro l h
    have hm := h m (by omega)
    have := ih (l := l.erase m) (fun j hj => (List.mem_erase_of_ne (by omega)).2 (h j (by omega)))
    rw [List.length_erase_of_mem hm] at this
    have : 0 < l.length := List.length_pos_of_mem hm
    omega

theorem full_mem {l : List Nat} {m : Nat} (hnd : l.Nodup) (hlt : ∀ i ∈ l, i < m) (hlen : l.length = m) : ∀ i, i < m → i ∈ l := by
  intro i hi
  apply Classical.byContradiction
  intro hn
  have := nodup_len (l := i :: l) (List.nodup_cons.2 ⟨hn, hnd⟩) (m := m) (fun j hj => by
    rcases List.mem_cons.1 hj with rfl | hj
    · exact hi
    · exact hlt j hj)
  simp at this; omega

theorem exists_least {l : List Nat} {m : Nat} (hnd : l.Nodup) (hlt : ∀ i ∈ l, i < m) (hlen : l.length < m) : ∃ i, i < m ∧ i ∉ l ∧ ∀ j, j < i → j ∈ l := by
  have key : ∀ n, n ≤ m → (∀ j, j < n → j ∈ l) ∨ ∃ i, i < n ∧ i ∉ l ∧ ∀ j, j < i → j ∈ l := by
    intro n
    induction n with
    | zero => intro _; exact .inl fun j hj => absurd hj (by omega)
    | succ n ih =>
      intro hn
      rcases ih (by omega) with h | ⟨i, h1, h2, h3⟩
      · by_cases hn' : n ∈ l
        · exact .inl fun j hj => by
            rcases Nat.lt_succ_iff_lt_or_eq.1 hj with h' | rfl
            · exact h j h'
            · exact hn'
        · exact .inr ⟨n, by omega, hn', h⟩
      · exact .inr ⟨i, by omega, h2, h3⟩
  rcases key m (Nat.le_refl m) with h | ⟨i, h1, h2, h3⟩
  · have := len_ge h
    omega
  · exact ⟨i, h1, h2, h3⟩

theorem draw_any {ro : Option Nat} {P : Program} {C : Ctx} (hP : C.P = P) {ops : Array Oper} {m : Nat} {A : List (List Nat × List Nat)} (hok : drawWk ops m A = true) {s0 : AState} (h0 : ∀ p ∈ s0.h, p.1 < s0.k) (hnd0 : (s0.h.map (·.1)).Nodup)
    {res : Nat → AV × Option Blk} (hres : ∀ i o, i < m → ops[i]? = some o → EvO P A ops s0 m res i o) {Q : Exit → Act → World → Prop}
    (hF : ∀ a w, St C (stE ops s0 m res (preN m)) a w → ∀ (n : Nat) (listed : Array Bool), m + n = ops.size → listed.size = ops.size → (∀ i, i < ops.size → listed.getD i true = decide (i < m)) → wpAnyIn (wd ro) 0 P .any ops Q n listed a w) :
    ∀ (n : Nat) (ex : List Nat) (listed : Array Bool) (β : Bt) (a : Act) (w : World), ex.length + n = ops.size → ex.Nodup → (∀ i ∈ ex, i < m) → (∀ i ∈ ex, ∀ o, ops[i]? = some o → ∀ p ∈ predsO o, p ∈ ex) →
      listed.size = ops.size → (∀ i, i < ops.size → listed.getD i true = decide (i ∈ ex)) → (∀ j, j < m → j ∉ ex → β (s0.k + j) = none) →
      StR C (stE ops s0 m res ex) β a w → wpAnyIn (wd ro) 0 P .any ops Q n listed a w := by
  subst hP
  have hm := drawOk_m hok
  -- all have come up
  have done : ∀ (n : Nat) (ex : List Nat) (listed : Array Bool) (β : Bt) (a : Act) (w : World), ex.length + n = ops.size → ex.length = m → ex.Nodup → (∀ i ∈ ex, i < m) → listed.size = ops.size →
      (∀ i, i < ops.size → listed.getD i true = decide (i ∈ ex)) → StR C (stE ops s0 m res ex) β a w → wpAnyIn (wd ro) 0 C.P .any ops Q n listed a w := by
    intro n ex listed β a w hlen hfl hnd hlt hls hl hst
    have hfull := full_mem hnd hlt hfl
    have hmem : ∀ i, i ∈ preN m ↔ i ∈ ex := fun i => by rw [mem_preN]; exact ⟨fun h => hfull i h, fun h => hlt i h⟩
    have hpn : ∀ q, (preN q).Nodup := by
      intro q
      induction q with
      | zero => exact List.nodup_nil
      | succ q ih => exact List.nodup_cons.2 ⟨fun h => by have := mem_preN.1 h; omega, ih⟩
    have ht : ∀ t, (stE ops s0 m res (preN m)).t t = (stE ops s0 m res ex).t t := by
      intro t
      by_cases hw : ∃ i, i < m ∧ dstOf ops i = some t ∧ t < s0.n
      · obtain ⟨i, hi, hd, htn⟩ := hw
        have huniq : ∀ j, j < m → j ≠ i → dstOf ops j ≠ some t := by
          intro j hj hji hdj
          have his : i < ops.size := by omega
          have f := draw_facts hok (Array.getElem?_eq_getElem his)
          refine (f.other hi j t hj hji hdj).1 ?_
          simpa [dstOf, his] using hd
        rw [stE_new hd htn _ ((hmem i).2 (hfull i hi)) (fun j hj => huniq j (mem_preN.1 hj)), stE_new hd htn ex (hfull i hi) (fun j hj => huniq j (hlt j hj))]
      · have hno : ∀ j, j < m → dstOf ops j ≠ some t ∨ ¬ t < s0.n := by
          intro j hj
          by_cases h1 : dstOf ops j = some t
          · exact .inr fun h2 => hw ⟨j, hj, h1, h2⟩
          · exact .inl h1
        rw [stE_old _ (fun j hj => hno j (mem_preN.1 hj)), stE_old _ (fun j hj => hno j (hlt j hj))]
    have hn := hst.hmem (h' := (stE ops s0 m res (preN m)).h) (t' := (stE ops s0 m res (preN m)).t) (stE_mem hmem) (stE_nd h0 hnd0 _ (hpn m)) ht
    have e1 := stE_n (ops := ops) (s0 := s0) (m := m) (res := res) ex
    have e2 := stE_n (ops := ops) (s0 := s0) (m := m) (res := res) (preN m)
    have hmk : ∀ (x : AState) (n k : Nat) (z : Aux), n = x.n → k = x.k → z = x.x → AState.mk n x.t x.h k z = x := by rintro ⟨_, _, _, _, _⟩ _ _ _ rfl rfl rfl; rfl
    have hn' : StR C (AState.mk (stE ops s0 m res ex).n (stE ops s0 m res (preN m)).t (stE ops s0 m res (preN m)).h (stE ops s0 m res ex).k (stE ops s0 m res ex).x) β a w := hn
    rw [hmk (stE ops s0 m res (preN m)) _ _ _ (e1.1.trans e2.1.symm) (e1.2.trans e2.2.symm) ((stE_x ex).trans (stE_x (preN m)).symm)] at hn'
    exact hF a w ⟨β, hn'⟩ n listed (by omega) hls (fun i hi => by rw [hl i hi]; congr 1; exact propext ⟨fun h => hlt i h, fun h => hfull i h⟩)
  intro n
  induction n with
  | zero =>
    intro ex listed β a w hlen hnd hlt hcl hls hl hβ hst
    have := nodup_len hnd hlt
    exact done 0 ex listed β a w hlen (by omega) hnd hlt hls hl hst
  | succ n ih =>
    intro ex listed β a w hlen hnd hlt hcl hls hl hβ hst
    by_cases hfl : ex.length = m
    · exact done _ ex listed β a w hlen hfl hnd hlt hls hl hst
    have hexm := nodup_len hnd hlt
    have hgd : ∀ q, q < ops.size → listed.getD q false = listed.getD q true := fun q hq => by simp [Array.getD, hls, hq]
    refine ⟨fun hnil => ?_, fun i hi => ?_⟩
    · -- the least that has not come up may come up
      obtain ⟨i, h1, h2, h3⟩ := exists_least hnd hlt (by omega)
      have his : i < ops.size := by omega
      have hin : i ∈ Region.ready .any ops listed := by
        refine mem_ready.2 ⟨by rw [hl i his]; simpa using h2, ops[i], Array.getElem?_eq_getElem his, fun e he hb => ?_⟩
        have hp := (draw_facts hok (Array.getElem?_eq_getElem his)).back e.on (mem_predsO.2 ⟨e, he, hb, rfl⟩)
        rw [hgd _ (by omega), hl _ (by omega)]
        simpa using h3 _ hp
      rw [hnil] at hin; cases hin
    · obtain ⟨h1, o, ho, he⟩ := mem_ready.1 hi
      have his : i < ops.size := (Array.getElem?_eq_some_iff.1 ho).1
      rw [hl i his] at h1
      have hnex : i ∉ ex := by simpa using h1
      have f := draw_facts hok ho
      have hpre : ∀ p ∈ predsO o, p ∈ ex := by
        intro p hp
        obtain ⟨e, he1, he2, rfl⟩ := mem_predsO.1 hp
        have := he e he1 he2
        have hps := f.back e.on hp
        rw [hgd _ (by omega), hl _ (by omega)] at this
        simpa using this
      have him : i < m := by
        apply Classical.byContradiction
        intro hge
        have hall : ∀ j, j < m → j ∈ ex := fun j hj => (f.tail (by omega) j hj).elim (hpre j) (fun h => anc_mem hok hcl i o ho hpre j h)
        have := len_ge hall
        omega
      have hdst : dstOf ops i = o.dst := by simp [dstOf, ho]
      have hanc := anc_mem hok hcl i o ho hpre
      -- a slot that the operation looks at is as it is in the text's order
      have hslot : ∀ t, (t ∈ usesT o ∨ ∃ j, j ∈ (A.getD i ([], [])).1 ∧ dstOf ops j = some t) → (stE ops s0 m res ex).t t = (stE ops s0 m res (preN i)).t t := by
        intro t htu
        by_cases hw : ∃ j, j < m ∧ j ≠ i ∧ dstOf ops j = some t ∧ t < s0.n
        · obtain ⟨j, hj, hji, hd, htn⟩ := hw
          have hjs : j < ops.size := by omega
          have huniq : ∀ q, q < m → q ≠ j → dstOf ops q ≠ some t := by
            intro q hq hqj hdq
            have fj := draw_facts hok (Array.getElem?_eq_getElem hjs)
            refine (fj.other hj q t hq hqj hdq).1 ?_
            simpa [dstOf, hjs] using hd
          have hrel : j < i ∧ j ∈ (A.getD i ([], [])).1 ∨ i < j ∧ j ∉ ex := by
            rcases htu with htu | ⟨q, hq, hdq⟩
            · have := (f.other him j t hj hji hd).2 htu
              by_cases hlt' : j < i
              · rw [if_pos hlt'] at this; exact .inl ⟨hlt', this⟩
              · rw [if_neg hlt'] at this
                refine .inr ⟨by omega, fun hje => hnex ?_⟩
                exact anc_mem hok hcl j ops[j] (Array.getElem?_eq_getElem hjs) (hcl j hje ops[j] (Array.getElem?_eq_getElem hjs)) i this
            · have hqi := (f.anc q hq).1
              have : q = j := by
                apply Classical.byContradiction
                intro hne
                exact huniq q (by omega) hne hdq
              subst this
              exact .inl ⟨hqi, hq⟩
          rcases hrel with ⟨hlt', hA⟩ | ⟨hgt, hne⟩
          · rw [stE_new hd htn ex (hanc j hA) (fun q hq => huniq q (hlt q hq)), stE_new hd htn (preN i) (mem_preN.2 hlt') (fun q hq => huniq q (by have := mem_preN.1 hq; omega))]
          · rw [stE_old ex (fun q hq => by
              by_cases hqj : q = j
              · subst hqj; exact absurd hq hne
              · exact .inl (huniq q (hlt q hq) hqj)), stE_old (preN i) (fun q hq => by
              have := mem_preN.1 hq
              exact .inl (huniq q (by omega) (by omega)))]
        · have hno : ∀ q, q < m → q ≠ i → dstOf ops q ≠ some t ∨ ¬ t < s0.n := by
            intro q hq hqi
            by_cases h1 : dstOf ops q = some t
            · exact .inr fun h2 => hw ⟨q, hq, hqi, h1, h2⟩
            · exact .inl h1
          rw [stE_old ex (fun q hq => hno q (hlt q hq) (fun e => hnex (e ▸ hq))), stE_old (preN i) (fun q hq => by have := mem_preN.1 hq; exact hno q (by omega) (by omega))]
      have hops : ∀ x ∈ o.op.operands.toList, evA (stE ops s0 m res (preN i)).t x = evA (stE ops s0 m res ex).t x := by
        intro x hx
        cases x with
        | tmp t => exact (hslot t (.inl (usesT_mem hx))).symm
        | _ => rfl
      have hmask : ∀ k b, maskH s0 (stE ops s0 m res (preN i)) A i k = some b → find (stE ops s0 m res ex).h k = some b := by
        intro k b hk
        unfold maskH at hk
        split at hk
        · cases hk
        split at hk
        · rename_i hlt'; rw [find_old hlt']; exact hk
        · rename_i hge
          split at hk
          · rename_i hc
            have hj : k - s0.k ∈ (A.getD i ([], [])).1 := by simpa using hc
            have hji := (f.anc _ hj).1
            have ek : k = s0.k + (k - s0.k) := by omega
            rw [ek] at hk ⊢
            rw [find_new h0 _ (mem_preN.2 hji)] at hk
            rw [find_new h0 _ (hanc _ hj)]; exact hk
          · cases hk
      -- behind it
      have hgo : ∀ a' w' β', StR C (putA (addB (stE ops s0 m res ex) (s0.k + i) (res i).2) o.dst (res i).1) β' a' w' → (∀ q, q ≠ s0.k + i → β' q = β q) → wpAnyIn (wd ro) 0 C.P .any ops Q n (listed.setIfInBounds i true) a' w' := by
        intro a' w' β' hst' hβ'
        refine ih (i :: ex) _ β' a' w' (by simp; omega) (List.nodup_cons.2 ⟨hnex, hnd⟩) (fun j hj => ?_) (fun j hj o' ho' p hp => ?_) (by simp [hls]) (fun q hq => ?_) (fun j hj hjn => ?_) (by simp only [stE, hdst]; exact hst')
        · rcases List.mem_cons.1 hj with rfl | hj
          · exact him
          · exact hlt j hj
        · rcases List.mem_cons.1 hj with rfl | hj
          · rw [ho] at ho'; cases ho'; exact List.mem_cons_of_mem _ (hpre p hp)
          · exact List.mem_cons_of_mem _ (hcl j hj o' ho' p hp)
        · by_cases hqi : i = q
          · subst hqi; simp [Array.getD, hls, hq]
          · have e1 : (listed.setIfInBounds i true).getD q true = listed.getD q true := getD_set_ne true hqi
            rw [e1, hl q hq]
            congr 1
            exact propext ⟨fun h => List.mem_cons_of_mem _ h, fun h => (List.mem_cons.1 h).resolve_left (fun e => hqi e.symm)⟩
        · have h1 : j ≠ i := fun e => hjn (e ▸ List.mem_cons_self)
          rw [hβ' _ (by omega)]
          exact hβ j hj (fun h => hjn (List.mem_cons_of_mem _ h))
      have hstep : qopK C.P (evA (stE ops s0 m res (preN i)).t) (maskH s0 (stE ops s0 m res (preN i)) A i) o (s0.k + i) (fun x y => x = (res i).1 ∧ y = (res i).2) → o.wpIn (wd ro) 0 C.P a w (wpAnyIn (wd ro) 0 C.P .any ops Q n (listed.setIfInBounds i true)) Q := by
        intro hq
        refine qop_step hst (H := find (stE ops s0 m res ex).h) (fun _ _ h => h) (hβ i him hnex) (fun p hp => ?_) (by rw [(stE_n _).2]; omega) (qopK_more hops hmask hq) hgo
        rcases stE_names h0 hp with h' | ⟨q, hq', he'⟩
        · omega
        · have : q ≠ i := fun e => hnex (e ▸ hq')
          omega
      have hev := hres i o him ho
      unfold wpOpIn
      simp only [ho]
      unfold EvO at hev
      split at hev
      · rename_i hg
        rw [if_pos (by simp [Region.wanted, hg])]
        exact hstep hev
      · rename_i g hg
        obtain ⟨b, want, hgd, hyes, hno⟩ := hev
        obtain ⟨j, want'⟩ := g
        have hgj := f.guard him j want' hg
        have hwanted : Region.wanted o (yielded ops a.tmps) = decide (b = want) := by
          unfold guardA at hgd
          rw [hg] at hgd
          simp only at hgd
          split at hgd
          case h_2 => cases hgd
          rename_i d hd
          split at hgd
          case h_3 => cases hgd
          case h_2 =>
            rename_i hb'
            simp only [Option.some.injEq, Prod.mk.injEq] at hgd
            obtain ⟨rfl, rfl⟩ := hgd
            simp only [Region.wanted, hg, yielded, hd, Option.bind_some]
            have hx := hst.tm d
            rw [hslot d (.inr ⟨j, hgj.2, hd⟩), hb'] at hx
            generalize hv : a.tmps.getD d undef = va at hx
            cases hx
            exact wanted_undef hv want'
          rename_i b' hb'
          simp only [Option.some.injEq, Prod.mk.injEq] at hgd
          obtain ⟨rfl, rfl⟩ := hgd
          simp only [Region.wanted, hg, yielded, hd, Option.bind_some]
          have hx := hst.tm d
          rw [hslot d (.inr ⟨j, hgj.2, hd⟩), hb'] at hx
          have hu : a.tmps[d]? = some (.bool b') := by
            generalize hv : a.tmps.getD d undef = va at hx
            cases hx
            cases hq : a.tmps[d]? with
            | none =>
              rw [Array.getD_eq_getD_getElem?, hq] at hv
              cases hv
            | some y =>
              rw [Array.getD_eq_getD_getElem?, hq] at hv
              simp only [Option.getD_some] at hv
              rw [hv]
          rw [hu]
          cases b' <;> cases want' <;> rfl
        rw [hwanted]
        by_cases hbw : b = want
        · simp only [hbw, decide_true, if_true]
          exact hstep (hyes hbw)
        · simp only [hbw, decide_false, Bool.false_eq_true, if_false]
          have hr := hno hbw
          refine ⟨fun _ _ => trivial, hgo _ _ β ?_ (fun _ _ => rfl)⟩
          rw [hr]
          exact hst.put (.v _) o.dst

/-- What comes behind a drawn region: shut, so that it is looked at only where the state is known. -/
def DrawK (rec : List It → (AState → Prop) → AState → Prop) (l : List Oper) (ops : Array Oper) (k : List It) (Q : AState → Prop) (s' : AState) : Prop := rec (.o l ops :: k) Q s'
/-- **THE RULE**: a region that draws its order, its first m operations walked in the text's order, the rest (which wait for all before them) by the run. -/
theorem AtCode.drawG {P : Program} {rec : List It → (AState → Prop) → AState → Prop} {id : Nat} {ops : Array Oper} {k : List It} {Q : AState → Prop} {s : AState} (F : AState → Prop) (m : Nat) (A : List (List Nat × List Nat)) (hok : drawWk ops m A = true)
    (hF : ∀ (ro : Option Nat) (Cs : Ctx → Prop) (Fin : Act → World → Prop), GoodC P ro Cs → Snd P rec → (∀ s a w, Q s → Stc Cs s a w → Fin a w) → ∀ s' a w, F s' → Stc Cs s' a w → ∀ (n : Nat) (listed : Array Bool), m + n = ops.size → listed.size = ops.size →
      (∀ i, i < ops.size → listed.getD i true = decide (i < m)) → wpAnyIn (wd ro) 0 P .any ops (kpost Fin (Kont P Cs ro Fin k)) n listed a w)
    (h : vcQ P A ops s F (ops.toList.take m) 0 { s with k := s.k + m }) : AtCode P rec (.region id ops true) k Q s := by
  intro ro Cs Fin hg hm hrec hQ a w hs
  obtain ⟨C, hC, β, hst⟩ := hs
  have hP := hg.prog C hC
  refine wpIn_region_any hm ?_
  have hms := drawOk_m hok
  have hlen : (ops.toList.take m).length = m := by simp; omega
  obtain ⟨res, h1, h2, h3⟩ := vcQ_res (A := A) (ops := ops) (s0 := s) (m := m) (ops.toList.take m) 0 (fun _ => (.unk, none)) (fun q hq => by
    rw [hlen] at hq
    rw [List.getElem?_take_of_lt hq, Nat.zero_add, Array.getElem?_toList]) h
  rw [hlen, Nat.zero_add] at h3
  have hst0 : StR C (stE ops s m res []) β a { w with drawn := w.drawn + 1 } := by
    have hsame := hst.same (w' := { w with drawn := w.drawn + 1 }) rfl rfl rfl rfl
    refine ⟨hsame.defers, hsame.size, hsame.tm, hsame.own, fun p hp => ?_, fun q r hr => ?_, hsame.nd, hsame.inj, hsame.mine, hsame.fr, hsame.Flt, hsame.sv, hsame.yy⟩
    · have := hsame.lt p hp; simp only [stE]; omega
    · have := hsame.βlt q r hr; simp only [stE]; omega
  refine draw_any hP hok hst.lt hst.nd (fun i o hi ho => by have := h2 i o (by rw [hlen]; exact hi) (by simpa using ho); simpa using this) (fun a' w' hst' n listed h4 h5 h6 => ?_) ops.size [] _ β a _ (by simp) List.nodup_nil (by simp) (by simp) (by simp) (fun i hi => by simp [Array.getD, hi]) (fun j hj _ => ?_) hst0
  · exact hF ro Cs Fin hg hrec hQ _ a' w' h3 ⟨C, hC, hst'⟩ n listed h4 h5 h6
  · cases hb : β (s.k + j) with
    | none => rfl
    | some r => exact absurd (hst.βlt _ _ hb) (by omega)


theorem AtCode.draw {P : Program} {rec : List It → (AState → Prop) → AState → Prop} {id : Nat} {ops : Array Oper} {k : List It} {Q : AState → Prop} {s : AState} (m : Nat) (A : List (List Nat × List Nat)) (hok : drawOk ops m A = true)
    (h : vcQ P A ops s (DrawK rec (ops.toList.drop m) ops k Q) (ops.toList.take m) 0 { s with k := s.k + m }) : AtCode P rec (.region id ops true) k Q s := by
  unfold drawOk at hok
  simp only [Bool.and_eq_true] at hok
  refine AtCode.drawG _ m A hok.1 (fun ro Cs Fin hg hrec hQ s' a w hs' hst n listed h4 h5 h6 => ?_) h
  have := hrec ro Cs Fin Q hg hQ _ _ a w hs' hst
  exact tail_any hok.1 hok.2 n m (Nat.le_refl m) h4 listed a w h6 h5 this

/-! ### A tail whose operations may come in more orders than one -/
/-- The orders: which may come next, and then. -/
inductive TT where
  | leaf
  | step (i : Nat) (t : TT)
  | both (a b : TT)
def heads : TT → List (Nat × TT)
  | .leaf => []
  | .step i t => [(i, t)]
  | .both a b => heads a ++ heads b
def readyT (ops : Array Oper) (R : List Nat) (i : Nat) : Bool := match ops[i]? with | some o => o.guard.isNone && (predsO o).all fun p => !R.contains p | none => false
def ttOk (ops : Array Oper) : Nat → List Nat → TT → Bool
  | _, [], .leaf => true
  | n + 1, x :: R, t => ((x :: R).all fun i => (match ops[i]? with | some o => o.guard.isNone | none => false) && (!readyT ops (x :: R) i || (heads t).any fun p => p.1 == i && ttOk ops n ((x :: R).erase i) p.2)) && (x :: R).any (readyT ops (x :: R))
  | _, _, _ => false
def idR (_ : List It) (Q : AState → Prop) (s : AState) : Prop := Q s
def tailT (P : Program) (ops : Array Oper) (rec : List It → (AState → Prop) → AState → Prop) (k : List It) (Q : AState → Prop) : TT → AState → Prop
  | .leaf, s => rec (.o [] ops :: k) Q s
  | .step i t, s => (match ops[i]? with | some o => opK P idR o [] (tailT P ops rec k Q t) s | none => False)
  | .both a b, s => tailT P ops rec k Q a s ∧ tailT P ops rec k Q b s

theorem tailT_heads {P : Program} {ops : Array Oper} {rec : List It → (AState → Prop) → AState → Prop} {k : List It} {Q : AState → Prop} {s : AState} : ∀ {t : TT}, tailT P ops rec k Q t s → ∀ p ∈ heads t, tailT P ops rec k Q (.step p.1 p.2) s
  | .leaf, _, p, hp => by simp [heads] at hp
  | .step i t, h, p, hp => by simp [heads] at hp; subst hp; exact h
  | .both a b, h, p, hp => by
    simp only [heads, List.mem_append] at hp
    rcases hp with hp | hp
    · exact tailT_heads h.1 p hp
    · exact tailT_heads h.2 p hp

theorem tailT_sound {P : Program} {ops : Array Oper} {rec : List It → (AState → Prop) → AState → Prop} {k : List It} {Q : AState → Prop} {ro : Option Nat} {Cs : Ctx → Prop} {Fin : Act → World → Prop} (hg : GoodC P ro Cs) (hrec : Snd P rec) (hQ : ∀ s a w, Q s → Stc Cs s a w → Fin a w) :
    ∀ (n : Nat) (R : List Nat) (t : TT) (listed : Array Bool) (s : AState) (a : Act) (w : World), R.length ≤ n → R.Nodup → ttOk ops n R t = true → listed.size = ops.size → (∀ i ∈ R, i < ops.size) →
      (∀ i, i < ops.size → listed.getD i true = !R.contains i) → (∀ i o p, i ∈ R → ops[i]? = some o → p ∈ predsO o → p < ops.size) → tailT P ops rec k Q t s → Stc Cs s a w → wpAnyIn (wd ro) 0 P .any ops (kpost Fin (Kont P Cs ro Fin k)) R.length listed a w := by
  intro n
  have hleaf : ∀ (listed : Array Bool) (s : AState) (a : Act) (w : World), listed.size = ops.size → (∀ i, i < ops.size → listed.getD i true = !([] : List Nat).contains i) → rec (.o [] ops :: k) Q s → Stc Cs s a w → wpAnyIn (wd ro) 0 P .any ops (kpost Fin (Kont P Cs ro Fin k)) 0 listed a w := by
    intro listed s a w hls hl h hst
    refine ⟨?_, by have := hrec ro Cs Fin Q hg hQ (.o [] ops :: k) s a w h hst; exact this⟩
    rw [List.eq_nil_iff_forall_not_mem]
    intro i hi
    obtain ⟨h1, o, ho, _⟩ := mem_ready.1 hi
    have hlt := (Array.getElem?_eq_some_iff.1 ho).1
    rw [hl i hlt] at h1
    simp at h1
  induction n with
  | zero =>
    intro R t listed s a w hn hnd hok hls hR hl hpr h hst
    have : R = [] := List.eq_nil_of_length_eq_zero (by omega)
    subst this
    cases t with
    | leaf => exact hleaf listed s a w hls hl h hst
    | step i t => simp [ttOk] at hok
    | both x y => simp [ttOk] at hok
  | succ n ih =>
    intro R t listed s a w hn hnd hok hls hR hl hpr h hst
    cases R with
    | nil =>
      cases t with
      | leaf => exact hleaf listed s a w hls hl h hst
      | step i t => simp [ttOk] at hok
      | both x y => simp [ttOk] at hok
    | cons x R =>
      have hd : ∀ q, q < ops.size → listed.getD q false = listed.getD q true := fun q hq => by simp [Array.getD, hls, hq]
      have hready : ∀ i ∈ Region.ready .any ops listed, i ∈ x :: R ∧ readyT ops (x :: R) i = (match ops[i]? with | some o => o.guard.isNone | none => false) := by
        intro i hi
        obtain ⟨h1, o, ho, he⟩ := mem_ready.1 hi
        have hlt := (Array.getElem?_eq_some_iff.1 ho).1
        rw [hl i hlt] at h1
        have hmem : i ∈ x :: R := by rw [Bool.not_eq_false'] at h1; exact List.contains_iff_mem.1 h1
        refine ⟨hmem, ?_⟩
        simp only [readyT, ho]
        have : (predsO o).all (fun p => !(x :: R).contains p) = true := by
          rw [List.all_eq_true]
          intro p hp
          obtain ⟨e, he1, he2, he3⟩ := mem_predsO.1 hp
          have h2 := he e he1 he2
          rw [he3] at h2
          have hps := hpr i o p hmem ho hp
          rw [hd p hps, hl p hps] at h2
          simpa using h2
        rw [this, Bool.and_true]
      unfold ttOk at hok
      simp only [Bool.and_eq_true, List.all_eq_true, Bool.or_eq_true, Bool.not_eq_true', List.any_eq_true, beq_iff_eq] at hok
      obtain ⟨hall, y, hy, hyr⟩ := hok
      refine ⟨fun hnil => ?_, fun i hi => ?_⟩
      · have hyin : y ∈ Region.ready .any ops listed := by
          unfold readyT at hyr
          cases hoy : ops[y]? with
          | none => rw [hoy] at hyr; cases hyr
          | some o =>
            rw [hoy] at hyr
            simp only [Bool.and_eq_true, List.all_eq_true] at hyr
            have hlt := (Array.getElem?_eq_some_iff.1 hoy).1
            refine mem_ready.2 ⟨by rw [hl y hlt, Bool.not_eq_false']; exact List.contains_iff_mem.2 hy, o, hoy, fun e he hb => ?_⟩
            have hp : e.on ∈ predsO o := mem_predsO.2 ⟨e, he, hb, rfl⟩
            have hps := hpr y o e.on hy hoy hp
            rw [hd _ hps, hl _ hps]
            exact hyr.2 _ hp
        rw [hnil] at hyin; cases hyin
      · obtain ⟨hmem, hrd⟩ := hready i hi
        obtain ⟨hgi, hi2⟩ := hall i hmem
        rw [hgi] at hrd
        obtain ⟨p, hp, hpi, hpo⟩ := hi2.resolve_left (by rw [hrd]; simp)
        have hstep := tailT_heads h p hp
        rw [hpi] at hstep
        simp only [tailT] at hstep
        have hlt : i < ops.size := hR i hmem
        have hoi : ops[i]? = some ops[i] := Array.getElem?_eq_getElem hlt
        rw [hoi] at hstep hgi
        simp only at hstep hgi
        unfold wpOpIn
        simp only [hoi]
        have hw : Region.wanted ops[i] (yielded ops a.tmps) = true := by
          have : ops[i].guard = none := by simpa using hgi
          simp [Region.wanted, this]
        rw [if_pos hw]
        refine opK_sound hg hst hstep fun s' a' w' hrec' hst' => ?_
        have hlen : ((x :: R).erase i).length = R.length := by rw [List.length_erase_of_mem hmem]; rfl
        rw [← hlen]
        refine ih _ p.2 _ s' a' w' (by rw [hlen]; simpa using hn) (hnd.erase i) hpo (by simp [hls]) (fun j hj => hR j (List.mem_of_mem_erase hj)) (fun j hj => ?_) (fun j o q hj ho hq => hpr j o q (List.mem_of_mem_erase hj) ho hq) hrec' hst'
        by_cases hij : i = j
        · subst hij
          have : i ∉ (x :: R).erase i := hnd.not_mem_erase
          simp [Array.getD, hls, hj, this]
        · have e1 : (listed.setIfInBounds i true).getD j true = listed.getD j true := getD_set_ne true hij
          rw [e1, hl j hj]
          congr 1
          have : j ∈ (x :: R).erase i ↔ j ∈ x :: R := List.mem_erase_of_ne (fun e => hij e.symm)
          rw [Bool.eq_iff_iff, List.contains_iff_mem, List.contains_iff_mem, this]

/-- **THE RULE** for a tail of which the order is open. -/
theorem AtCode.drawT {P : Program} {rec : List It → (AState → Prop) → AState → Prop} {id : Nat} {ops : Array Oper} {k : List It} {Q : AState → Prop} {s : AState} (m : Nat) (A : List (List Nat × List Nat)) (t : TT)
    (hok : (drawWk ops m A && ttOk ops (ops.size - m) (List.range' m (ops.size - m)) t) = true)
    (h : vcQ P A ops s (tailT P ops rec k Q t) (ops.toList.take m) 0 { s with k := s.k + m }) : AtCode P rec (.region id ops true) k Q s := by
  simp only [Bool.and_eq_true] at hok
  have hm := drawOk_m hok.1
  refine AtCode.drawG _ m A hok.1 (fun ro Cs Fin hg hrec hQ s' a w hs' hst n listed h4 h5 h6 => ?_) h
  have hn : n = (List.range' m (ops.size - m)).length := by simp; omega
  rw [hn]
  refine tailT_sound hg hrec hQ (ops.size - m) _ t listed s' a w (by simp) (List.nodup_range' ) hok.2 h5 (fun i hi => by have := List.mem_range'_1.1 hi; omega) (fun i hi => ?_) (fun i o p hi ho hp => ?_) hs' hst
  · rw [h6 i hi]
    by_cases hlt : i < m
    · have : i ∉ List.range' m (ops.size - m) := fun h => by have := List.mem_range'_1.1 h; omega
      simp [hlt, this]
    · have : i ∈ List.range' m (ops.size - m) := List.mem_range'_1.2 ⟨by omega, by omega⟩
      simp [hlt, this]
  · have := (draw_facts hok.1 ho).back p hp
    have := (Array.getElem?_eq_some_iff.1 ho).1
    omega
end Go.Eng
