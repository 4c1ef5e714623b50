/- The engine, part Y: wrapped numbers. -/
import Derived.Test.YtdhdopmjaibggaaEngX
import Derived.IntWalk
set_option linter.unusedSimpArgs false
set_option linter.unusedVariables false
namespace Go.Eng
open Go Go.RowKit

def wr (x : Int) : Int := IntKind.i64.wrap x
theorem wrap_wr (x : Int) : IntKind.i64.wrap x = wr x := rfl
abbrev I (x : Int) : AV := .v (.int .i64 x)
abbrev Bo (x : Bool) : AV := .v (.bool x)
theorem wr_def (x : Int) : wr x = (x + 9223372036854775808) % 18446744073709551616 - 9223372036854775808 := IntKind.wrap_i64 x
theorem wr_in {x : Int} (h1 : -9223372036854775808 ≤ x) (h2 : x ≤ 9223372036854775807) : wr x = x := IntWalk.i64_in x ⟨h1, h2⟩
theorem wr_lo (x : Int) : -9223372036854775808 ≤ wr x := by rw [wr_def]; omega
theorem wr_hi (x : Int) : wr x ≤ 9223372036854775807 := by rw [wr_def]; omega
theorem wr_ex (x : Int) : ∃ k, wr x = x + 18446744073709551616 * k := ⟨-((x + 9223372036854775808) / 18446744073709551616), by rw [wr_def]; omega⟩
theorem wr_per (x k : Int) : wr (x + 18446744073709551616 * k) = wr x := by rw [wr_def, wr_def]; omega
theorem wr_wr (x : Int) : wr (wr x) = wr x := wr_in (wr_lo x) (wr_hi x)
theorem wr_add_l (x y : Int) : wr (wr x + y) = wr (x + y) := by rw [wr_def, wr_def, wr_def]; omega
theorem wr_add_r (x y : Int) : wr (x + wr y) = wr (x + y) := by rw [wr_def, wr_def, wr_def]; omega
theorem wr_sub_l (x y : Int) : wr (wr x - y) = wr (x - y) := by rw [wr_def, wr_def, wr_def]; omega
theorem wr_sub_r (x y : Int) : wr (x - wr y) = wr (x - y) := by rw [wr_def, wr_def, wr_def]; omega
theorem wr_neg (x : Int) : wr (-wr x) = wr (-x) := by rw [wr_def, wr_def, wr_def]; omega
theorem wr_mul_l (x y : Int) : wr (wr x * y) = wr (x * y) := by
  obtain ⟨k, hk⟩ := wr_ex x
  rw [hk, Int.add_mul, Int.mul_assoc, wr_per]
theorem wr_mul_r (x y : Int) : wr (x * wr y) = wr (x * y) := by rw [Int.mul_comm, wr_mul_l, Int.mul_comm]
theorem getD_some {α : Type} {l : List α} {i : Nat} (h : i < l.length) (d : α) : l[i]? = some (l.getD i d) := by simp [List.getD, h]
theorem drop_get {α : Type} {l : List α} {i : Nat} {x : α} (h : l[i]? = some x) : l.drop i = x :: l.drop (i + 1) := by
  obtain ⟨hi, rfl⟩ := List.getElem?_eq_some_iff.1 h
  exact List.drop_eq_getElem_cons hi
end Go.Eng
