/- The engine, part M: regions that draw their order. -/
import Derived.Test.YtdhdopmjaibggaaEngL
set_option linter.unusedSimpArgs false
set_option linter.unusedVariables false
namespace Go.Eng
open Go Go.RowKit

theorem loadK_det {P : Program} {t : TypeId} {c : List AV} {j : Nat} {K : AV → Prop} (h : loadK P t c j K) : ∃ av, K av ∧ loadK P t c j (· = av) := by
  unfold loadK at *
  split at h
  · exact ⟨_, h.2, h.1, rfl⟩
  · obtain ⟨s, h1, h2⟩ := h; exact ⟨s, h2, s, h1, rfl⟩
  · exact h.elim

theorem binV_det {o : BinOp} {a b : Value} {K : AV → Prop} (h : binV o a b K) : ∃ av, K av ∧ binV o a b (· = av) := by
  unfold binV at h
  split at h
  all_goals first
    | exact h.elim
    | exact ⟨_, h.2.2, h.1, h.2.1, rfl⟩
    | exact ⟨_, h.2, h.1, rfl⟩
    | exact ⟨_, h, rfl⟩

theorem sliceK_det {P : Program} {H : Nat → Option Blk} {t : TypeId} {x : AV} {lo hi mx : Option AV} {K : AV → Prop} (h : sliceK P H t x lo hi mx K) : ∃ av, K av ∧ sliceK P H t x lo hi mx (· = av) := by
  unfold sliceK at *
  split at h
  · exact h.elim
  · rename_i n hn
    obtain ⟨l, h', h1, h2, h3, h4, h5, h⟩ := h
    split at h
    · exact ⟨_, h.2.2, l, h', h1, h2, h3, h4, h5, h.1, h.2.1, rfl⟩
    · exact ⟨_, h.2, l, h', h1, h2, h3, h4, h5, h.1, rfl⟩
    · obtain ⟨d, q1, q2, q3⟩ := h
      split at q3
      · rename_i k hk
        refine ⟨_, q3.2, l, h', h1, h2, h3, h4, h5, d, q1, q2, ?_⟩
        (try rw [hk]); exact ⟨q3.1, rfl⟩
      · exact q3.elim
    · exact ⟨_, h.2, l, h', h1, h2, h3, h4, h5, h.1, rfl⟩
    · exact h.elim

theorem qev_det {P : Program} {ρ : Operand → AV} {H : Nat → Option Blk} {op : Op} {K : AV → Prop} (h : qev P ρ H op K) : ∃ av, K av ∧ qev P ρ H op (· = av) := by
  cases op
  case move x => exact ⟨_, h, rfl⟩
  case assign x => exact ⟨_, h, rfl⟩
  case pick c a b =>
    simp only [qev] at *
    split at h
    · rename_i z hz; (try rw [hz]); cases z
      · exact ⟨_, h, by simp⟩
      · exact ⟨_, h, by simp⟩
    · exact h.elim
  case load t a =>
    simp only [qev] at *
    split at h
    · rename_i c j hc; (try rw [hc]); exact loadK_det h
    · rename_i n i j hc; (try rw [hc]); (try simp only)
      split at h
      · rename_i k hk
        obtain ⟨ch, h1, h2⟩ := h
        obtain ⟨av, q1, q2⟩ := loadK_det h2
        exact ⟨av, q1, by (try rw [hk]); exact ⟨ch, h1, q2⟩⟩
      · exact h.elim
    · exact h.elim
  case fieldAddr s x f =>
    simp only [qev] at *
    split at h
    · rename_i o ft hf; (try rw [hf]); (try simp only)
      obtain ⟨h1, h⟩ := h
      split at h
      · rename_i hc; (try rw [hc]); exact ⟨_, h, h1, rfl⟩
      · rename_i hc; (try rw [hc]); exact ⟨_, h, h1, rfl⟩
      · exact h.elim
    · exact h.elim
  case indexAddr t x ix =>
    simp only [qev] at *
    split at h
    · rename_i kk i hi; (try rw [hi]); (try simp only)
      split at h
      · rename_i e hs; (try rw [hs]); (try simp only)
        split at h
        · rename_i z l hc; (try rw [hc]); (try simp only)
          obtain ⟨h1, h2, ch, h3, h4⟩ := h
          exact ⟨_, h4, h1, h2, ch, h3, rfl⟩
        · rename_i n i0 len hc; (try rw [hc]); (try simp only)
          obtain ⟨h1, h⟩ := h
          split at h
          · rename_i k hk; exact ⟨_, h.2, h1, by (try rw [hk]); exact ⟨h.1, rfl⟩⟩
          · exact h.elim
        · exact h.elim
      · rename_i m e hs ha; (try rw [hs, ha]); (try simp only)
        obtain ⟨h1, h⟩ := h
        split at h
        · rename_i hc; (try rw [hc]); exact ⟨_, h, h1, rfl⟩
        · rename_i hc; (try rw [hc]); exact ⟨_, h, h1, rfl⟩
        · exact h.elim
      · exact h.elim
    · exact h.elim
  case field t x f =>
    simp only [qev] at *
    split at h
    · rename_i o ft l hf hc; (try rw [hf, hc]); exact loadK_det h
    · exact h.elim
  case index t x ix =>
    simp only [qev] at *
    split at h
    · rename_i kk i hi; (try rw [hi]); (try simp only)
      split at h
      · rename_i l hc; (try rw [hc]); (try simp only)
        split at h
        · rename_i m e ha; (try rw [ha]); (try simp only)
          obtain ⟨av, q1, q2⟩ := loadK_det h.2
          exact ⟨av, q1, h.1, q2⟩
        · exact h.elim
      · rename_i s hc; (try rw [hc]); (try simp only)
        obtain ⟨h1, h2, b, h3, h4⟩ := h
        exact ⟨_, h4, h1, h2, b, h3, rfl⟩
      · exact h.elim
    · exact h.elim
  case extract x ix =>
    simp only [qev] at *
    split at h
    · rename_i l hc; (try rw [hc]); obtain ⟨a, h1, h2⟩ := h; exact ⟨a, h2, a, h1, rfl⟩
    · exact h.elim
  case binOp o t x y yt =>
    simp only [qev] at *
    split at h
    · rename_i a b ha hb; (try rw [ha, hb])
      obtain ⟨hu, h⟩ := h
      unfold boolV at h
      split at h
      · exact ⟨_, h, hu, rfl⟩
      · exact ⟨_, h, hu, rfl⟩
      · exact h.elim
    · rename_i a b hnb ha hb; (try rw [ha, hb])
      obtain ⟨r, h1, h2⟩ := binV_det h
      refine ⟨r, h1, ?_⟩
      exact h2
    · rename_i l l' ha hb; (try rw [ha, hb])
      unfold aggV at h
      split at h
      case h_2 => exact h.elim
      rename_i xs ys h1 h2
      obtain ⟨h3, h4⟩ := h
      split at h4
      · exact ⟨_, h4, by simp only [aggV, h1, h2]; exact ⟨h3, trivial⟩⟩
      · exact ⟨_, h4, by simp only [aggV, h1, h2]; exact ⟨h3, trivial⟩⟩
      · exact h4.elim
    · exact h.elim
  case unOp o t x =>
    simp only [qev] at *
    split at h
    · rename_i hc; (try rw [hc]); exact ⟨_, h, rfl⟩
    · rename_i hc; (try rw [hc]); exact ⟨_, h, rfl⟩
    · exact h.elim
  case convert s d x =>
    simp only [qev] at *
    split at h
    · rename_i hc hk; (try rw [hc, hk]); exact ⟨_, h.2, h.1, rfl⟩
    · exact h.elim
  case makeFunc fn fst caps =>
    cases fn with
    | func f => exact ⟨_, h.2, h.1, rfl⟩
    | _ => exact h.elim
  case nilCheck x =>
    simp only [qev] at *
    split at h
    · rename_i hc; (try rw [hc]); exact ⟨_, h, rfl⟩
    · rename_i hc; (try rw [hc]); exact ⟨_, h, rfl⟩
    · rename_i hc; (try rw [hc]); exact ⟨_, h, rfl⟩
    · exact h.elim
  case slice t x lo hi mx =>
    simp only [qev] at *
    split at h
    · rename_i hp; (try rw [hp]); (try simp only)
      split at h
      · rename_i ha; (try rw [ha]); exact sliceK_det h
      · exact h.elim
    · exact h.elim
  case build t parts =>
    simp only [qev] at *
    split at h
    · rename_i z pl hz hpl; (try rw [hz, hpl]); obtain ⟨c, h1, h2⟩ := h; exact ⟨_, h2, c, h1, rfl⟩
    · exact h.elim
  case call c =>
    obtain ⟨callee, args, ats⟩ := c
    cases callee with
    | builtin b =>
      cases b
      case len =>
        simp only [qev] at *
        split at h
        · rename_i x t hx ht; (try rw [hx, ht]); (try simp only)
          split at h
          · rename_i e he; (try rw [he]); (try simp only)
            split at h
            · exact h.elim
            · rename_i hns
              obtain ⟨n, h1, h2⟩ := h
              exact ⟨_, h2, n, h1, rfl⟩
          · rename_i he; (try rw [he]); (try simp only)
            obtain ⟨h1, h⟩ := h
            split at h
            · rename_i hc; (try rw [hc]); exact ⟨_, h, h1, rfl⟩
            · exact h.elim
        · exact h.elim
      case max =>
        simp only [qev] at *
        split at h
        · rename_i hc; (try rw [hc]); exact ⟨_, h, rfl⟩
        · rename_i hc; (try rw [hc]); exact ⟨_, h, rfl⟩
        · rename_i hc; (try rw [hc]); exact ⟨_, h, rfl⟩
        · exact h.elim
      case min =>
        simp only [qev] at *
        split at h
        · rename_i hc; (try rw [hc]); exact ⟨_, h, rfl⟩
        · rename_i hc; (try rw [hc]); exact ⟨_, h, rfl⟩
        · exact h.elim
      all_goals exact h.elim
    | _ => exact h.elim
  all_goals exact h.elim

theorem nev_det {P : Program} {ρ : Operand → AV} {op : Op} {n : Nat} {K : AV → Blk → Prop} (h : nev P ρ op n K) : ∃ av b, K av b ∧ nev P ρ op n (fun x y => x = av ∧ y = b) := by
  cases op
  case box t x =>
    simp only [nev] at *
    split at h
    · rename_i l hl; (try rw [hl]); exact ⟨_, _, h, rfl, rfl⟩
    · exact h.elim
  case alloc t =>
    simp only [nev] at *
    split at h
    · rename_i l hl; (try rw [hl]); exact ⟨_, _, h, rfl, rfl⟩
    · exact h.elim
  case buildSlice t len parts =>
    simp only [nev] at *
    split at h
    · rename_i e he; (try rw [he]); obtain ⟨h1, cs, h2, h3⟩ := h; exact ⟨_, _, h3, h1, cs, h2, rfl, rfl⟩
    · exact h.elim
  case makeSlice t l c =>
    simp only [nev] at *
    split at h
    · rename_i e k1 x k2 y he hx hy; (try rw [he, hx, hy]); (try simp only)
      obtain ⟨h1, h⟩ := h
      split at h
      · rename_i z hz; exact ⟨_, _, h.2, h1, by (try rw [hz]); exact ⟨h.1, rfl, rfl⟩⟩
      · exact h.elim
    · exact h.elim
  all_goals exact h.elim

theorem sliceK_more {P : Program} {H H' : Nat → Option Blk} {t : TypeId} {x : AV} {lo hi mx : Option AV} {K : AV → Prop} (hH : ∀ n b, H n = some b → H' n = some b) (h : sliceK P H t x lo hi mx K) : sliceK P H' t x lo hi mx K := by
  unfold sliceK at *
  split at h
  · exact h.elim
  · rename_i n hn
    obtain ⟨l, h', h1, h2, h3, h4, h5, h⟩ := h
    refine ⟨l, h', h1, h2, h3, h4, h5, ?_⟩
    split at h
    · exact h
    · exact h
    · obtain ⟨d, q1, q2, q3⟩ := h
      refine ⟨d, q1, q2, ?_⟩
      split at q3
      · rename_i k hk; rw [hH _ _ hk]; exact q3
      · exact q3.elim
    · exact h
    · exact h.elim

theorem qev_moreH {P : Program} {ρ : Operand → AV} {H H' : Nat → Option Blk} {op : Op} {K : AV → Prop} (hH : ∀ n b, H n = some b → H' n = some b) (h : qev P ρ H op K) : qev P ρ H' op K := by
  cases op
  case load t a =>
    simp only [qev] at *
    split at h
    · exact h
    · split at h
      · rename_i k hk; rw [hH _ _ hk]; exact h
      · exact h.elim
    · exact h.elim
  case indexAddr t x ix =>
    simp only [qev] at *
    split at h
    · split at h
      · split at h
        · exact h
        · obtain ⟨h1, h⟩ := h
          refine ⟨h1, ?_⟩
          split at h
          · rename_i k hk; rw [hH _ _ hk]; exact h
          · exact h.elim
        · exact h.elim
      · exact h
      · exact h.elim
    · exact h.elim
  case slice t x lo hi mx =>
    simp only [qev] at *
    split at h
    · split at h
      · exact sliceK_more hH h
      · exact h.elim
    · exact h.elim
  case makeFunc fn fst caps => cases fn <;> exact h
  case call c =>
    obtain ⟨callee, args, ats⟩ := c
    cases callee with
    | builtin b => cases b <;> exact h
    | _ => exact h
  all_goals exact h

theorem evs_eq {ρ ρ' : Operand → AV} {l : List Operand} (h : ∀ x ∈ l, ρ x = ρ' x) : l.map ρ = l.map ρ' := List.map_congr_left h

theorem qev_moreρ {P : Program} {ρ ρ' : Operand → AV} {H : Nat → Option Blk} {op : Op} {K : AV → Prop} (hρ : ∀ x ∈ op.operands.toList, ρ x = ρ' x) (h : qev P ρ H op K) : qev P ρ' H op K := by
  cases op
  case move x => have e := hρ x (by simp [Op.operands]); simp only [qev] at *; rw [← e]; exact h
  case assign x => have e := hρ x (by simp [Op.operands]); simp only [qev] at *; rw [← e]; exact h
  case pick c a b => have e1 := hρ c (by simp [Op.operands]); have e2 := hρ a (by simp [Op.operands]); have e3 := hρ b (by simp [Op.operands]); simp only [qev] at *; rw [← e1, ← e2, ← e3]; exact h
  case load t a => have e := hρ a (by simp [Op.operands]); simp only [qev] at *; rw [← e]; exact h
  case fieldAddr s x f => have e := hρ x (by simp [Op.operands]); simp only [qev] at *; rw [← e]; exact h
  case indexAddr t x ix => have e1 := hρ x (by simp [Op.operands]); have e2 := hρ ix (by simp [Op.operands]); simp only [qev] at *; rw [← e1, ← e2]; exact h
  case field t x f => have e := hρ x (by simp [Op.operands]); simp only [qev] at *; rw [← e]; exact h
  case index t x ix => have e1 := hρ x (by simp [Op.operands]); have e2 := hρ ix (by simp [Op.operands]); simp only [qev] at *; rw [← e1, ← e2]; exact h
  case extract x ix => have e := hρ x (by simp [Op.operands]); simp only [qev] at *; rw [← e]; exact h
  case binOp o t x y yt => have e1 := hρ x (by simp [Op.operands]); have e2 := hρ y (by simp [Op.operands]); simp only [qev] at *; rw [← e1, ← e2]; exact h
  case unOp o t x => have e := hρ x (by simp [Op.operands]); simp only [qev] at *; rw [← e]; exact h
  case convert s d x => have e := hρ x (by simp [Op.operands]); simp only [qev] at *; rw [← e]; exact h
  case makeFunc fn fst caps =>
    cases fn with
    | func f =>
      simp only [qev] at *
      obtain ⟨h1, h2⟩ := h
      refine ⟨h1, ?_⟩
      rw [← evs_eq (fun x hx => hρ x (by simp only [Op.operands, Array.toList_append, List.mem_append]; exact .inr hx))]; exact h2
    | _ => exact h.elim
  case nilCheck x => have e := hρ x (by simp [Op.operands]); simp only [qev] at *; rw [← e]; exact h
  case slice t x lo hi mx =>
    have e1 := hρ x (by simp [Op.operands])
    have e2 : lo.map ρ = lo.map ρ' := by cases lo with
      | none => rfl
      | some q => exact congrArg some (hρ q (by simp [Op.operands]))
    have e3 : hi.map ρ = hi.map ρ' := by cases hi with
      | none => rfl
      | some q => exact congrArg some (hρ q (by simp [Op.operands]))
    have e4 : mx.map ρ = mx.map ρ' := by cases mx with
      | none => rfl
      | some q => exact congrArg some (hρ q (by simp [Op.operands]))
    simp only [qev] at *; rw [← e1, ← e2, ← e3, ← e4]; exact h
  case build t parts =>
    simp only [qev] at *
    have e : (parts.toList.map fun p => (p.1, ρ p.2)) = parts.toList.map fun p => (p.1, ρ' p.2) :=
      List.map_congr_left fun p hp => by rw [hρ p.2 (by simp only [Op.operands]; exact List.mem_map_of_mem hp)]
    rw [← e]; exact h
  case call c =>
    obtain ⟨callee, args, ats⟩ := c
    cases callee with
    | builtin b =>
      have e : args.toList.map ρ = args.toList.map ρ' := evs_eq fun x hx => hρ x (by simpa [Op.operands, Call.operands] using hx)
      cases b
      case len =>
        simp only [qev] at *
        split at h
        · rename_i x t hx ht
          have e1 : ρ x = ρ' x := hρ x (by simp [Op.operands, Call.operands]; rw [← Array.mem_toList_iff, hx]; simp)
          (try simp only [hx, ht])
          rw [← e1]; exact h
        · exact h.elim
      case max => simp only [qev] at *; rw [← e]; exact h
      case min => simp only [qev] at *; rw [← e]; exact h
      all_goals exact h.elim
    | _ => exact h.elim
  all_goals exact h.elim

theorem nev_moreρ {P : Program} {ρ ρ' : Operand → AV} {op : Op} {n : Nat} {K : AV → Blk → Prop} (hρ : ∀ x ∈ op.operands.toList, ρ x = ρ' x) (h : nev P ρ op n K) : nev P ρ' op n K := by
  cases op
  case box t x => have e := hρ x (by simp [Op.operands]); simp only [nev] at *; rw [← e]; exact h
  case alloc t => exact h
  case buildSlice t len parts =>
    simp only [nev] at *
    have e : (parts.toList.map fun p => ρ p.2) = parts.toList.map fun p => ρ' p.2 :=
      List.map_congr_left fun p hp => hρ p.2 (by simp only [Op.operands]; exact List.mem_map_of_mem hp)
    rw [← e]; exact h
  case makeSlice t l c => have e1 := hρ l (by simp [Op.operands]); have e2 := hρ c (by simp [Op.operands]); simp only [nev] at *; rw [← e1, ← e2]; exact h
  all_goals exact h.elim

theorem nev_mono {P : Program} {ρ : Operand → AV} {op : Op} {n : Nat} {K K' : AV → Blk → Prop} (hK : ∀ x y, K x y → K' x y) (h : nev P ρ op n K) : nev P ρ op n K' := by
  cases op
  case box t x =>
    simp only [nev] at *
    split at h
    · exact hK _ _ h
    · exact h.elim
  case alloc t =>
    simp only [nev] at *
    split at h
    · exact hK _ _ h
    · exact h.elim
  case buildSlice t len parts =>
    simp only [nev] at *
    split at h
    · obtain ⟨h1, cs, h2, h3⟩ := h; exact ⟨h1, cs, h2, hK _ _ h3⟩
    · exact h.elim
  case makeSlice t l c =>
    simp only [nev] at *
    split at h
    · obtain ⟨h1, h⟩ := h
      refine ⟨h1, ?_⟩
      split at h
      · exact ⟨h.1, hK _ _ h.2⟩
      · exact h.elim
    · exact h.elim
  all_goals exact h.elim
end Go.Eng
