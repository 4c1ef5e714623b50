/- What the engine asks of the program's types, as closed facts. Conditions: none. -/
import Derived.Test.YtdamfkckjcplcaaBE7
import Derived.Test.YtdamfkckjcplcaaProg
namespace Go.Proofs.Ytdamfkckjcplcaa
open Go Go.Eng
namespace T
theorem sz3 : szT Try.prog 3 = 1 := by kernel_rfl
theorem by3 : byT Try.prog 3 = 8 := by kernel_rfl
theorem ag3 : aggT Try.prog 3 = some false := by kernel_rfl
theorem ik3 : ikT Try.prog 3 = some .i64 := by kernel_rfl
theorem us3 : (Try.prog.underlying 3).isSome = true := by kernel_rfl
theorem ze3 : zeT Try.prog 3 = some [.int .i64 0] := by kernel_rfl
theorem sz4 : szT Try.prog 4 = 1 := by kernel_rfl
theorem ag4 : aggT Try.prog 4 = some false := by kernel_rfl
theorem sz22 : szT Try.prog 22 = 1 := by kernel_rfl
theorem ag22 : aggT Try.prog 22 = some false := by kernel_rfl
theorem sl22 : slT Try.prog 22 = some 56 := by kernel_rfl
theorem sz28 : szT Try.prog 28 = 2 := by kernel_rfl
theorem ag28 : aggT Try.prog 28 = some true := by kernel_rfl
theorem ze28 : zeT Try.prog 28 = some [.int .i64 0, .int .i64 0] := by kernel_rfl
theorem bu28 : bldT Try.prog 28 = some [(0, 1), (1, 1)] := by kernel_rfl
theorem sz32 : szT Try.prog 32 = 1 := by kernel_rfl
theorem ag32 : aggT Try.prog 32 = some false := by kernel_rfl
theorem sl32 : slT Try.prog 32 = some 3 := by kernel_rfl
theorem ar32 : arT Try.prog 32 = none := by kernel_rfl
theorem pt32 : ptT Try.prog 32 = none := by kernel_rfl
theorem ik32 : ikT Try.prog 32 = none := by kernel_rfl
theorem us32 : (Try.prog.underlying 32).isSome = true := by kernel_rfl
theorem sz33 : szT Try.prog 33 = 1 := by kernel_rfl
theorem ag33 : aggT Try.prog 33 = some false := by kernel_rfl
theorem sl33 : slT Try.prog 33 = some 58 := by kernel_rfl
theorem ar33 : arT Try.prog 33 = none := by kernel_rfl
theorem pt33 : ptT Try.prog 33 = none := by kernel_rfl
theorem ik33 : ikT Try.prog 33 = none := by kernel_rfl
theorem us33 : (Try.prog.underlying 33).isSome = true := by kernel_rfl
theorem sz40 : szT Try.prog 40 = 1 := by kernel_rfl
theorem ag40 : aggT Try.prog 40 = some false := by kernel_rfl
theorem sl40 : slT Try.prog 40 = some 50 := by kernel_rfl
theorem ik40 : ikT Try.prog 40 = none := by kernel_rfl
theorem us40 : (Try.prog.underlying 40).isSome = true := by kernel_rfl
theorem sz42 : szT Try.prog 42 = 1 := by kernel_rfl
theorem ag42 : aggT Try.prog 42 = some true := by kernel_rfl
theorem ze42 : zeT Try.prog 42 = some [.slice none 0 0] := by kernel_rfl
theorem fl42_0 : fldT Try.prog 42 0 = some (0, 40) := by kernel_rfl
theorem bu42 : bldT Try.prog 42 = some [(0, 1)] := by kernel_rfl
theorem sz46 : szT Try.prog 46 = 1 := by kernel_rfl
theorem ag46 : aggT Try.prog 46 = some false := by kernel_rfl
theorem sl46 : slT Try.prog 46 = some 63 := by kernel_rfl
theorem sz48 : szT Try.prog 48 = 3 := by kernel_rfl
theorem ag48 : aggT Try.prog 48 = some true := by kernel_rfl
theorem ze48 : zeT Try.prog 48 = some [.int .i64 0, .slice none 0 0, .slice none 0 0] := by kernel_rfl
theorem fl48_0 : fldT Try.prog 48 0 = some (0, 3) := by kernel_rfl
theorem fl48_1 : fldT Try.prog 48 1 = some (1, 46) := by kernel_rfl
theorem fl48_2 : fldT Try.prog 48 2 = some (2, 22) := by kernel_rfl
theorem bu48 : bldT Try.prog 48 = some [(0, 1), (1, 1), (2, 1)] := by kernel_rfl
theorem sz50 : szT Try.prog 50 = 4 := by kernel_rfl
theorem by50 : byT Try.prog 50 = 48 := by kernel_rfl
theorem ag50 : aggT Try.prog 50 = some true := by kernel_rfl
theorem ze50 : zeT Try.prog 50 = some [.int .i64 0, .int .i64 0, .slice none 0 0, .int .i64 0] := by kernel_rfl
theorem fl50_0 : fldT Try.prog 50 0 = some (0, 3) := by kernel_rfl
theorem fl50_1 : fldT Try.prog 50 1 = some (1, 3) := by kernel_rfl
theorem fl50_2 : fldT Try.prog 50 2 = some (2, 33) := by kernel_rfl
theorem fl50_3 : fldT Try.prog 50 3 = some (3, 3) := by kernel_rfl
theorem bu50 : bldT Try.prog 50 = some [(0, 1), (1, 1), (2, 1), (3, 1)] := by kernel_rfl
theorem sz54 : szT Try.prog 54 = 1 := by kernel_rfl
theorem ag54 : aggT Try.prog 54 = some false := by kernel_rfl
theorem sz56 : szT Try.prog 56 = 4 := by kernel_rfl
theorem ag56 : aggT Try.prog 56 = some true := by kernel_rfl
theorem ze56 : zeT Try.prog 56 = some [.int .i64 0, .int .i64 0, .int .i64 0, .int .i64 0] := by kernel_rfl
theorem fl56_0 : fldT Try.prog 56 0 = some (0, 3) := by kernel_rfl
theorem fl56_1 : fldT Try.prog 56 1 = some (1, 3) := by kernel_rfl
theorem fl56_2 : fldT Try.prog 56 2 = some (2, 54) := by kernel_rfl
theorem fl56_3 : fldT Try.prog 56 3 = some (3, 3) := by kernel_rfl
theorem bu56 : bldT Try.prog 56 = some [(0, 1), (1, 1), (2, 1), (3, 1)] := by kernel_rfl
theorem sz58 : szT Try.prog 58 = 2 := by kernel_rfl
theorem by58 : byT Try.prog 58 = 16 := by kernel_rfl
theorem ag58 : aggT Try.prog 58 = some true := by kernel_rfl
theorem ze58 : zeT Try.prog 58 = some [.int .i64 0, .int .i64 0] := by kernel_rfl
theorem fl58_0 : fldT Try.prog 58 0 = some (0, 3) := by kernel_rfl
theorem fl58_1 : fldT Try.prog 58 1 = some (1, 3) := by kernel_rfl
theorem bu58 : bldT Try.prog 58 = some [(0, 1), (1, 1)] := by kernel_rfl
theorem sz63 : szT Try.prog 63 = 4 := by kernel_rfl
theorem ag63 : aggT Try.prog 63 = some true := by kernel_rfl
theorem ze63 : zeT Try.prog 63 = some [.int .i64 0, .int .i64 0, .int .i64 0, .int .i64 0] := by kernel_rfl
theorem fl63_0 : fldT Try.prog 63 0 = some (0, 3) := by kernel_rfl
theorem fl63_1 : fldT Try.prog 63 1 = some (1, 3) := by kernel_rfl
theorem fl63_2 : fldT Try.prog 63 2 = some (2, 3) := by kernel_rfl
theorem fl63_3 : fldT Try.prog 63 3 = some (3, 3) := by kernel_rfl
theorem bu63 : bldT Try.prog 63 = some [(0, 1), (1, 1), (2, 1), (3, 1)] := by kernel_rfl
theorem sz70 : szT Try.prog 70 = 2 := by kernel_rfl
theorem ag70 : aggT Try.prog 70 = some true := by kernel_rfl
theorem ze70 : zeT Try.prog 70 = some [.int .i64 0, .int .i64 0] := by kernel_rfl
theorem bu70 : bldT Try.prog 70 = some [(0, 1), (1, 1)] := by kernel_rfl
theorem ze77 : zeT Try.prog 77 = some [.slice none 0 0, .slice none 0 0, .slice none 0 0, .int .i64 0, .int .i64 0] := by kernel_rfl
theorem fl77_0 : fldT Try.prog 77 0 = some (0, 22) := by kernel_rfl
theorem fl77_1 : fldT Try.prog 77 1 = some (1, 33) := by kernel_rfl
theorem fl77_2 : fldT Try.prog 77 2 = some (2, 32) := by kernel_rfl
theorem fl77_3 : fldT Try.prog 77 3 = some (3, 3) := by kernel_rfl
theorem fl77_4 : fldT Try.prog 77 4 = some (4, 3) := by kernel_rfl
theorem bu77 : bldT Try.prog 77 = some [(0, 1), (1, 1), (2, 1), (3, 1), (4, 1)] := by kernel_rfl
theorem sz83 : szT Try.prog 83 = 256 := by kernel_rfl
theorem ag83 : aggT Try.prog 83 = some true := by kernel_rfl
theorem sl83 : slT Try.prog 83 = none := by kernel_rfl
theorem ar83 : arT Try.prog 83 = some (256, 4) := by kernel_rfl
theorem sz95 : szT Try.prog 95 = 1 := by kernel_rfl
theorem ag95 : aggT Try.prog 95 = some false := by kernel_rfl
theorem ze97 : zeT Try.prog 97 = some [.slice none 0 0, .map none] := by kernel_rfl
theorem fl97_0 : fldT Try.prog 97 0 = some (0, 22) := by kernel_rfl
theorem fl97_1 : fldT Try.prog 97 1 = some (1, 95) := by kernel_rfl
theorem bu97 : bldT Try.prog 97 = some [(0, 1), (1, 1)] := by kernel_rfl
theorem ag101 : aggT Try.prog 101 = some false := by kernel_rfl
theorem ik109 : ikT Try.prog 109 = some .u64 := by kernel_rfl
theorem us109 : (Try.prog.underlying 109).isSome = true := by kernel_rfl
theorem ag112 : aggT Try.prog 112 = some false := by kernel_rfl
end T
end Go.Proofs.Ytdamfkckjcplcaa
