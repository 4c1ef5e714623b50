/- What the engine asks of the program's types, as closed facts. Conditions: none. -/
import Derived.Test.YtfmlhmfbhcfnpaaDoorBE7
import Derived.Test.YtfmlhmfbhcfnpaaDoorProg
namespace Go.Proofs.YtfmlhmfbhcfnpaaDoor
open Go Go.Eng
namespace T
theorem sz3 : szT Tryd.prog 3 = 1 := by kernel_rfl
theorem ag3 : aggT Tryd.prog 3 = some false := by kernel_rfl
theorem ik3 : ikT Tryd.prog 3 = some .i64 := by kernel_rfl
theorem us3 : (Tryd.prog.underlying 3).isSome = true := by kernel_rfl
theorem sz5 : szT Tryd.prog 5 = 1 := by kernel_rfl
theorem by5 : byT Tryd.prog 5 = 1 := by kernel_rfl
theorem ag5 : aggT Tryd.prog 5 = some false := by kernel_rfl
theorem ik5 : ikT Tryd.prog 5 = some .u8 := by kernel_rfl
theorem us5 : (Tryd.prog.underlying 5).isSome = true := by kernel_rfl
theorem ze5 : zeT Tryd.prog 5 = some [.int .u8 0] := by kernel_rfl
theorem sz9 : szT Tryd.prog 9 = 1 := by kernel_rfl
theorem by9 : byT Tryd.prog 9 = 16 := by kernel_rfl
theorem ag9 : aggT Tryd.prog 9 = some false := by kernel_rfl
theorem sl9 : slT Tryd.prog 9 = none := by kernel_rfl
theorem ar9 : arT Tryd.prog 9 = none := by kernel_rfl
theorem pt9 : ptT Tryd.prog 9 = none := by kernel_rfl
theorem ik9 : ikT Tryd.prog 9 = none := by kernel_rfl
theorem st9 : Tryd.prog.underlying 9 = some .string := by kernel_rfl
theorem ze9 : zeT Tryd.prog 9 = some [.string ⟨#[]⟩] := by kernel_rfl
theorem us21 : (Tryd.prog.underlying 21).isSome = true := by kernel_rfl
theorem sz23 : szT Tryd.prog 23 = 1 := by kernel_rfl
theorem by23 : byT Tryd.prog 23 = 24 := by kernel_rfl
theorem ag23 : aggT Tryd.prog 23 = some false := by kernel_rfl
theorem sl23 : slT Tryd.prog 23 = some 5 := by kernel_rfl
theorem ar23 : arT Tryd.prog 23 = none := by kernel_rfl
theorem pt23 : ptT Tryd.prog 23 = none := by kernel_rfl
theorem ik23 : ikT Tryd.prog 23 = none := by kernel_rfl
theorem us23 : (Tryd.prog.underlying 23).isSome = true := by kernel_rfl
theorem ux23 : u8C Tryd.prog 23 = true := by kernel_rfl
theorem ze23 : zeT Tryd.prog 23 = some [.slice none 0 0] := by kernel_rfl
theorem sz25 : szT Tryd.prog 25 = 3 := by kernel_rfl
theorem ag25 : aggT Tryd.prog 25 = some true := by kernel_rfl
theorem sf25 : selfT Tryd.prog 25 = false := by kernel_rfl
theorem ze25 : zeT Tryd.prog 25 = some [.int .i64 0, .int .i64 0, .slice none 0 0] := by kernel_rfl
theorem fl25_0 : fldT Tryd.prog 25 0 = some (0, 3) := by kernel_rfl
theorem fl25_1 : fldT Tryd.prog 25 1 = some (1, 3) := by kernel_rfl
theorem fl25_2 : fldT Tryd.prog 25 2 = some (2, 23) := by kernel_rfl
theorem bu25 : bldT Tryd.prog 25 = some [(0, 1), (1, 1), (2, 1)] := by kernel_rfl
theorem sz26 : szT Tryd.prog 26 = 1 := by kernel_rfl
theorem ag26 : aggT Tryd.prog 26 = some false := by kernel_rfl
theorem sf26 : selfT Tryd.prog 26 = false := by kernel_rfl
theorem ze26 : zeT Tryd.prog 26 = some [.int .i64 0] := by kernel_rfl
theorem sz34 : szT Tryd.prog 34 = 4 := by kernel_rfl
theorem ag34 : aggT Tryd.prog 34 = some true := by kernel_rfl
theorem sl34 : slT Tryd.prog 34 = none := by kernel_rfl
theorem ar34 : arT Tryd.prog 34 = some (4, 3) := by kernel_rfl
theorem sf34 : selfT Tryd.prog 34 = false := by kernel_rfl
theorem ze34 : zeT Tryd.prog 34 = some [.int .i64 0, .int .i64 0, .int .i64 0, .int .i64 0] := by kernel_rfl
theorem bu34 : bldT Tryd.prog 34 = some [(0, 1), (1, 1), (2, 1), (3, 1)] := by kernel_rfl
theorem sz37 : szT Tryd.prog 37 = 256 := by kernel_rfl
theorem ag37 : aggT Tryd.prog 37 = some true := by kernel_rfl
theorem sl37 : slT Tryd.prog 37 = none := by kernel_rfl
theorem ar37 : arT Tryd.prog 37 = some (256, 3) := by kernel_rfl
theorem sf37 : selfT Tryd.prog 37 = false := by kernel_rfl
theorem sl40 : slT Tryd.prog 40 = some 50 := by kernel_rfl
theorem ik40 : ikT Tryd.prog 40 = none := by kernel_rfl
theorem us40 : (Tryd.prog.underlying 40).isSome = true := by kernel_rfl
theorem ux40 : u8C Tryd.prog 40 = false := by kernel_rfl
theorem sz50 : szT Tryd.prog 50 = 2 := by kernel_rfl
theorem by50 : byT Tryd.prog 50 = 16 := by kernel_rfl
theorem ag50 : aggT Tryd.prog 50 = some true := by kernel_rfl
theorem sl50 : slT Tryd.prog 50 = none := by kernel_rfl
theorem ar50 : arT Tryd.prog 50 = some (2, 3) := by kernel_rfl
theorem sf50 : selfT Tryd.prog 50 = false := by kernel_rfl
theorem ze50 : zeT Tryd.prog 50 = some [.int .i64 0, .int .i64 0] := by kernel_rfl
theorem bu50 : bldT Tryd.prog 50 = some [(0, 1), (1, 1)] := by kernel_rfl
theorem sl68 : slT Tryd.prog 68 = some 9 := by kernel_rfl
theorem ar68 : arT Tryd.prog 68 = none := by kernel_rfl
theorem pt68 : ptT Tryd.prog 68 = none := by kernel_rfl
theorem sz80 : szT Tryd.prog 80 = 1 := by kernel_rfl
theorem ag80 : aggT Tryd.prog 80 = some false := by kernel_rfl
theorem ik80 : ikT Tryd.prog 80 = none := by kernel_rfl
theorem sf82 : selfT Tryd.prog 82 = true := by kernel_rfl
theorem ze82 : zeT Tryd.prog 82 = some [.pointer none, .slice none 0 0] := by kernel_rfl
theorem fl82_0 : fldT Tryd.prog 82 0 = some (0, 80) := by kernel_rfl
theorem fl82_1 : fldT Tryd.prog 82 1 = some (1, 23) := by kernel_rfl
theorem sz83 : szT Tryd.prog 83 = 1 := by kernel_rfl
theorem ag83 : aggT Tryd.prog 83 = some false := by kernel_rfl
theorem sl83 : slT Tryd.prog 83 = some 23 := by kernel_rfl
theorem ik83 : ikT Tryd.prog 83 = none := by kernel_rfl
theorem us83 : (Tryd.prog.underlying 83).isSome = true := by kernel_rfl
theorem ux83 : u8C Tryd.prog 83 = false := by kernel_rfl
theorem sl91 : slT Tryd.prog 91 = some 25 := by kernel_rfl
theorem ik117 : ikT Tryd.prog 117 = none := by kernel_rfl
end T
end Go.Proofs.YtfmlhmfbhcfnpaaDoor
