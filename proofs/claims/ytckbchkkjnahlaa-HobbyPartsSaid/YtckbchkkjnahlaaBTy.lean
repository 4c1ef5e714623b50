/- What the engine asks of the program's types, as closed facts. Conditions: none. -/
import Derived.Test.YtckbchkkjnahlaaBE7
import Derived.Test.YtckbchkkjnahlaaProg
namespace Go.Proofs.Ytckbchkkjnahlaa
open Go Go.Eng
namespace T
theorem ik2 : ikT Try.prog 2 = some .i64 := by kernel_rfl
theorem us2 : (Try.prog.underlying 2).isSome = true := by kernel_rfl
theorem sz3 : szT Try.prog 3 = 1 := by kernel_rfl
theorem by3 : byT Try.prog 3 = 8 := by kernel_rfl
theorem ag3 : aggT Try.prog 3 = some false := by kernel_rfl
theorem pt3 : ptT Try.prog 3 = none := by kernel_rfl
theorem ik3 : ikT Try.prog 3 = some .i64 := by kernel_rfl
theorem us3 : (Try.prog.underlying 3).isSome = true := by kernel_rfl
theorem ze3 : zeT Try.prog 3 = some [.int .i64 0] := by kernel_rfl
theorem sz4 : szT Try.prog 4 = 1 := by kernel_rfl
theorem ag4 : aggT Try.prog 4 = some false := by kernel_rfl
theorem bo4 : Try.prog.underlying 4 = some .bool := by kernel_rfl
theorem ik5 : ikT Try.prog 5 = some .u8 := by kernel_rfl
theorem us5 : (Try.prog.underlying 5).isSome = true := by kernel_rfl
theorem st9 : Try.prog.underlying 9 = some .string := by kernel_rfl
theorem sz22 : szT Try.prog 22 = 1 := by kernel_rfl
theorem ag22 : aggT Try.prog 22 = some false := by kernel_rfl
theorem sl22 : slT Try.prog 22 = some 27 := by kernel_rfl
theorem ar22 : arT Try.prog 22 = none := by kernel_rfl
theorem pt22 : ptT Try.prog 22 = none := by kernel_rfl
theorem ik22 : ikT Try.prog 22 = none := by kernel_rfl
theorem us22 : (Try.prog.underlying 22).isSome = true := by kernel_rfl
theorem sl25 : slT Try.prog 25 = some 34 := by kernel_rfl
theorem ar25 : arT Try.prog 25 = none := by kernel_rfl
theorem pt25 : ptT Try.prog 25 = none := by kernel_rfl
theorem ik25 : ikT Try.prog 25 = none := by kernel_rfl
theorem us25 : (Try.prog.underlying 25).isSome = true := by kernel_rfl
theorem sz27 : szT Try.prog 27 = 2 := by kernel_rfl
theorem by27 : byT Try.prog 27 = 16 := by kernel_rfl
theorem ag27 : aggT Try.prog 27 = some true := by kernel_rfl
theorem ze27 : zeT Try.prog 27 = some [.int .i64 0, .int .i64 0] := by kernel_rfl
theorem fl27_0 : fldT Try.prog 27 0 = some (0, 3) := by kernel_rfl
theorem fl27_1 : fldT Try.prog 27 1 = some (1, 3) := by kernel_rfl
theorem bu27 : bldT Try.prog 27 = some [(0, 1), (1, 1)] := by kernel_rfl
theorem sz30 : szT Try.prog 30 = 1 := by kernel_rfl
theorem ag30 : aggT Try.prog 30 = some false := by kernel_rfl
theorem sz32 : szT Try.prog 32 = 5 := by kernel_rfl
theorem ag32 : aggT Try.prog 32 = some true := by kernel_rfl
theorem ze32 : zeT Try.prog 32 = some [.int .i64 0, .int .i64 0, .int .i64 0, .int .i64 0, .int .i64 0] := by kernel_rfl
theorem fl32_0 : fldT Try.prog 32 0 = some (0, 30) := by kernel_rfl
theorem fl32_1 : fldT Try.prog 32 1 = some (1, 3) := by kernel_rfl
theorem fl32_2 : fldT Try.prog 32 2 = some (2, 3) := by kernel_rfl
theorem fl32_3 : fldT Try.prog 32 3 = some (3, 27) := by kernel_rfl
theorem bu32 : bldT Try.prog 32 = some [(0, 1), (1, 1), (2, 1), (3, 2)] := by kernel_rfl
theorem sz34 : szT Try.prog 34 = 12 := by kernel_rfl
theorem by34 : byT Try.prog 34 = 96 := by kernel_rfl
theorem ag34 : aggT Try.prog 34 = some true := by kernel_rfl
theorem ze34 : zeT Try.prog 34 = some [.int .i64 0, .int .i64 0, .int .i64 0, .int .i64 0, .int .i64 0, .int .i64 0, .int .i64 0, .int .i64 0, .int .i64 0, .int .i64 0, .int .i64 0, .int .i64 0] := by kernel_rfl
theorem fl34_0 : fldT Try.prog 34 0 = some (0, 27) := by kernel_rfl
theorem fl34_1 : fldT Try.prog 34 1 = some (2, 32) := by kernel_rfl
theorem fl34_2 : fldT Try.prog 34 2 = some (7, 32) := by kernel_rfl
theorem bu34 : bldT Try.prog 34 = some [(0, 2), (2, 5), (7, 5)] := by kernel_rfl
theorem sz37 : szT Try.prog 37 = 2 := by kernel_rfl
theorem ag37 : aggT Try.prog 37 = some true := by kernel_rfl
theorem ze37 : zeT Try.prog 37 = some [.slice none 0 0, .bool false] := by kernel_rfl
theorem fl37_0 : fldT Try.prog 37 0 = some (0, 22) := by kernel_rfl
theorem fl37_1 : fldT Try.prog 37 1 = some (1, 4) := by kernel_rfl
theorem bu37 : bldT Try.prog 37 = some [(0, 1), (1, 1)] := by kernel_rfl
theorem sl41 : slT Try.prog 41 = some 44 := by kernel_rfl
theorem ik41 : ikT Try.prog 41 = none := by kernel_rfl
theorem us41 : (Try.prog.underlying 41).isSome = true := by kernel_rfl
theorem sz44 : szT Try.prog 44 = 2 := by kernel_rfl
theorem by44 : byT Try.prog 44 = 16 := by kernel_rfl
theorem ag44 : aggT Try.prog 44 = some true := by kernel_rfl
theorem ze44 : zeT Try.prog 44 = some [.int .i64 0, .int .i64 0] := by kernel_rfl
theorem bu44 : bldT Try.prog 44 = some [(0, 1), (1, 1)] := by kernel_rfl
theorem sz61 : szT Try.prog 61 = 1 := by kernel_rfl
theorem ag61 : aggT Try.prog 61 = some false := by kernel_rfl
theorem sl61 : slT Try.prog 61 = some 66 := by kernel_rfl
theorem ar61 : arT Try.prog 61 = none := by kernel_rfl
theorem pt61 : ptT Try.prog 61 = none := by kernel_rfl
theorem ik61 : ikT Try.prog 61 = none := by kernel_rfl
theorem us61 : (Try.prog.underlying 61).isSome = true := by kernel_rfl
theorem ze61 : zeT Try.prog 61 = some [.slice none 0 0] := by kernel_rfl
theorem sz66 : szT Try.prog 66 = 19 := by kernel_rfl
theorem by66 : byT Try.prog 66 = 152 := by kernel_rfl
theorem ag66 : aggT Try.prog 66 = some true := by kernel_rfl
theorem ze66 : zeT Try.prog 66 = some [.int .i64 0, .int .i64 0, .int .i64 0, .int .i64 0, .int .i64 0, .int .i64 0, .int .i64 0, .int .i64 0, .int .i64 0, .int .i64 0, .int .i64 0, .int .i64 0, .int .i64 0, .int .i64 0, .int .i64 0, .int .i64 0, .int .i64 0, .int .i64 0, .bool false] := by kernel_rfl
theorem fl66_0 : fldT Try.prog 66 0 = some (0, 27) := by kernel_rfl
theorem fl66_1 : fldT Try.prog 66 1 = some (2, 27) := by kernel_rfl
theorem fl66_2 : fldT Try.prog 66 2 = some (4, 32) := by kernel_rfl
theorem fl66_3 : fldT Try.prog 66 3 = some (9, 32) := by kernel_rfl
theorem fl66_4 : fldT Try.prog 66 4 = some (14, 3) := by kernel_rfl
theorem fl66_5 : fldT Try.prog 66 5 = some (15, 3) := by kernel_rfl
theorem fl66_6 : fldT Try.prog 66 6 = some (16, 3) := by kernel_rfl
theorem fl66_7 : fldT Try.prog 66 7 = some (17, 3) := by kernel_rfl
theorem fl66_8 : fldT Try.prog 66 8 = some (18, 4) := by kernel_rfl
theorem bu66 : bldT Try.prog 66 = some [(0, 2), (2, 2), (4, 5), (9, 5), (14, 1), (15, 1), (16, 1), (17, 1), (18, 1)] := by kernel_rfl
theorem sl71 : slT Try.prog 71 = some 3 := by kernel_rfl
theorem ik71 : ikT Try.prog 71 = none := by kernel_rfl
theorem us71 : (Try.prog.underlying 71).isSome = true := by kernel_rfl
theorem sz80 : szT Try.prog 80 = 1 := by kernel_rfl
theorem ag80 : aggT Try.prog 80 = some false := by kernel_rfl
theorem ze80 : zeT Try.prog 80 = some [.pointer none] := by kernel_rfl
theorem sl81 : slT Try.prog 81 = some 80 := by kernel_rfl
theorem ik94 : ikT Try.prog 94 = some .u64 := by kernel_rfl
theorem us94 : (Try.prog.underlying 94).isSome = true := by kernel_rfl
theorem sl96 : slT Try.prog 96 = some 103 := by kernel_rfl
theorem ar96 : arT Try.prog 96 = none := by kernel_rfl
theorem pt96 : ptT Try.prog 96 = none := by kernel_rfl
theorem ik96 : ikT Try.prog 96 = none := by kernel_rfl
theorem us96 : (Try.prog.underlying 96).isSome = true := by kernel_rfl
theorem sz98 : szT Try.prog 98 = 1 := by kernel_rfl
theorem ag98 : aggT Try.prog 98 = some false := by kernel_rfl
theorem sl98 : slT Try.prog 98 = some 131 := by kernel_rfl
theorem ar98 : arT Try.prog 98 = none := by kernel_rfl
theorem pt98 : ptT Try.prog 98 = none := by kernel_rfl
theorem ik98 : ikT Try.prog 98 = none := by kernel_rfl
theorem us98 : (Try.prog.underlying 98).isSome = true := by kernel_rfl
theorem sz100 : szT Try.prog 100 = 2 := by kernel_rfl
theorem by100 : byT Try.prog 100 = 32 := by kernel_rfl
theorem ag100 : aggT Try.prog 100 = some true := by kernel_rfl
theorem ze100 : zeT Try.prog 100 = some [.bool false, .slice none 0 0] := by kernel_rfl
theorem fl100_0 : fldT Try.prog 100 0 = some (0, 4) := by kernel_rfl
theorem fl100_1 : fldT Try.prog 100 1 = some (1, 98) := by kernel_rfl
theorem bu100 : bldT Try.prog 100 = some [(0, 1), (1, 1)] := by kernel_rfl
theorem sz101 : szT Try.prog 101 = 4 := by kernel_rfl
theorem by101 : byT Try.prog 101 = 64 := by kernel_rfl
theorem ag101 : aggT Try.prog 101 = some true := by kernel_rfl
theorem sl101 : slT Try.prog 101 = none := by kernel_rfl
theorem ar101 : arT Try.prog 101 = some (2, 100) := by kernel_rfl
theorem ze101 : zeT Try.prog 101 = some [.bool false, .slice none 0 0, .bool false, .slice none 0 0] := by kernel_rfl
theorem sz103 : szT Try.prog 103 = 10 := by kernel_rfl
theorem by103 : byT Try.prog 103 = 160 := by kernel_rfl
theorem ag103 : aggT Try.prog 103 = some true := by kernel_rfl
theorem ze103 : zeT Try.prog 103 = some [.bool false, .slice none 0 0, .bool false, .slice none 0 0, .bool false, .slice none 0 0, .bool false, .slice none 0 0, .bool false, .slice none 0 0] := by kernel_rfl
theorem fl103_0 : fldT Try.prog 103 0 = some (0, 100) := by kernel_rfl
theorem fl103_1 : fldT Try.prog 103 1 = some (2, 100) := by kernel_rfl
theorem fl103_2 : fldT Try.prog 103 2 = some (4, 100) := by kernel_rfl
theorem fl103_3 : fldT Try.prog 103 3 = some (6, 101) := by kernel_rfl
theorem bu103 : bldT Try.prog 103 = some [(0, 2), (2, 2), (4, 2), (6, 4)] := by kernel_rfl
theorem sl107 : slT Try.prog 107 = some 101 := by kernel_rfl
theorem sl112 : slT Try.prog 112 = some 61 := by kernel_rfl
theorem ik118 : ikT Try.prog 118 = some .u64 := by kernel_rfl
theorem sl122 : slT Try.prog 122 = some 100 := by kernel_rfl
theorem sz127 : szT Try.prog 127 = 3 := by kernel_rfl
theorem ag127 : aggT Try.prog 127 = some true := by kernel_rfl
theorem ze127 : zeT Try.prog 127 = some [.bool false, .slice none 0 0, .slice none 0 0] := by kernel_rfl
theorem fl127_0 : fldT Try.prog 127 0 = some (0, 4) := by kernel_rfl
theorem fl127_1 : fldT Try.prog 127 1 = some (1, 98) := by kernel_rfl
theorem bu127 : bldT Try.prog 127 = some [(0, 1), (1, 1), (2, 1)] := by kernel_rfl
theorem sz131 : szT Try.prog 131 = 1 := by kernel_rfl
theorem by131 : byT Try.prog 131 = 4 := by kernel_rfl
theorem ag131 : aggT Try.prog 131 = some false := by kernel_rfl
theorem ik131 : ikT Try.prog 131 = some .u32 := by kernel_rfl
theorem us131 : (Try.prog.underlying 131).isSome = true := by kernel_rfl
theorem ze131 : zeT Try.prog 131 = some [.int .u32 0] := by kernel_rfl
end T
end Go.Proofs.Ytckbchkkjnahlaa
