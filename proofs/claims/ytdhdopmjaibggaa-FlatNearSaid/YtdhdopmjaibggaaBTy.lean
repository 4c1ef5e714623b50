/- What the engine asks of the program's types, as closed facts. Conditions: none. Written by gen_types.py of this repository. -/
import Derived.Test.YtdhdopmjaibggaaProg
import Derived.Test.YtdhdopmjaibggaaBE2
namespace Go.Proofs.Ytdhdopmjaibggaa
open Go Go.Eng
namespace T
theorem sz2 : szT Try.prog 2 = 1 := by kernel_rfl
theorem by2 : byT Try.prog 2 = 8 := by kernel_rfl
theorem ag2 : aggT Try.prog 2 = some false := by kernel_rfl
theorem sl2 : slT Try.prog 2 = none := by kernel_rfl
theorem ar2 : arT Try.prog 2 = none := by kernel_rfl
theorem pt2 : ptT Try.prog 2 = none := by kernel_rfl
theorem ik2 : ikT Try.prog 2 = some .i64 := by kernel_rfl
theorem us2 : (Try.prog.underlying 2).isSome = true := by kernel_rfl
theorem ze2 : zeT Try.prog 2 = some [.int .i64 0] := by kernel_rfl
theorem sz3 : szT Try.prog 3 = 1 := by kernel_rfl
theorem by3 : byT Try.prog 3 = 8 := by kernel_rfl
theorem ag3 : aggT Try.prog 3 = some false := by kernel_rfl
theorem sl3 : slT Try.prog 3 = none := by kernel_rfl
theorem ar3 : arT Try.prog 3 = none := by kernel_rfl
theorem pt3 : ptT Try.prog 3 = none := by kernel_rfl
theorem ik3 : ikT Try.prog 3 = some .i64 := by kernel_rfl
theorem us3 : (Try.prog.underlying 3).isSome = true := by kernel_rfl
theorem ze3 : zeT Try.prog 3 = some [.int .i64 0] := by kernel_rfl
theorem sz4 : szT Try.prog 4 = 1 := by kernel_rfl
theorem by4 : byT Try.prog 4 = 1 := by kernel_rfl
theorem ag4 : aggT Try.prog 4 = some false := by kernel_rfl
theorem sl4 : slT Try.prog 4 = none := by kernel_rfl
theorem ar4 : arT Try.prog 4 = none := by kernel_rfl
theorem pt4 : ptT Try.prog 4 = none := by kernel_rfl
theorem ik4 : ikT Try.prog 4 = none := by kernel_rfl
theorem us4 : (Try.prog.underlying 4).isSome = true := by kernel_rfl
theorem bo4 : Try.prog.underlying 4 = some .bool := by kernel_rfl
theorem ze4 : zeT Try.prog 4 = some [.bool false] := by kernel_rfl
theorem sz5 : szT Try.prog 5 = 1 := by kernel_rfl
theorem by5 : byT Try.prog 5 = 1 := by kernel_rfl
theorem ag5 : aggT Try.prog 5 = some false := by kernel_rfl
theorem sl5 : slT Try.prog 5 = none := by kernel_rfl
theorem ar5 : arT Try.prog 5 = none := by kernel_rfl
theorem pt5 : ptT Try.prog 5 = none := by kernel_rfl
theorem ik5 : ikT Try.prog 5 = some .u8 := by kernel_rfl
theorem us5 : (Try.prog.underlying 5).isSome = true := by kernel_rfl
theorem ze5 : zeT Try.prog 5 = some [.int .u8 0] := by kernel_rfl
theorem sz6 : szT Try.prog 6 = 1 := by kernel_rfl
theorem by6 : byT Try.prog 6 = 1 := by kernel_rfl
theorem ag6 : aggT Try.prog 6 = some false := by kernel_rfl
theorem sl6 : slT Try.prog 6 = none := by kernel_rfl
theorem ar6 : arT Try.prog 6 = none := by kernel_rfl
theorem pt6 : ptT Try.prog 6 = none := by kernel_rfl
theorem ik6 : ikT Try.prog 6 = some .u8 := by kernel_rfl
theorem us6 : (Try.prog.underlying 6).isSome = true := by kernel_rfl
theorem ze6 : zeT Try.prog 6 = some [.int .u8 0] := by kernel_rfl
theorem sz7 : szT Try.prog 7 = 4 := by kernel_rfl
theorem by7 : byT Try.prog 7 = 24 := by kernel_rfl
theorem ag7 : aggT Try.prog 7 = some true := by kernel_rfl
theorem sl7 : slT Try.prog 7 = none := by kernel_rfl
theorem ar7 : arT Try.prog 7 = none := by kernel_rfl
theorem pt7 : ptT Try.prog 7 = none := by kernel_rfl
theorem ik7 : ikT Try.prog 7 = none := by kernel_rfl
theorem us7 : (Try.prog.underlying 7).isSome = true := by kernel_rfl
theorem ze7 : zeT Try.prog 7 = some [.int .i64 0, .int .i64 0, .bool false, .int .u8 0] := by kernel_rfl
theorem fl7_0 : fldT Try.prog 7 0 = some (0, 2) := by kernel_rfl
theorem fl7_1 : fldT Try.prog 7 1 = some (1, 3) := by kernel_rfl
theorem fl7_2 : fldT Try.prog 7 2 = some (2, 4) := by kernel_rfl
theorem fl7_3 : fldT Try.prog 7 3 = some (3, 6) := by kernel_rfl
theorem bu7 : bldT Try.prog 7 = some [(0, 1), (1, 1), (2, 1), (3, 1)] := by kernel_rfl
theorem sz8 : szT Try.prog 8 = 4 := by kernel_rfl
theorem by8 : byT Try.prog 8 = 24 := by kernel_rfl
theorem ag8 : aggT Try.prog 8 = some true := by kernel_rfl
theorem sl8 : slT Try.prog 8 = none := by kernel_rfl
theorem ar8 : arT Try.prog 8 = none := by kernel_rfl
theorem pt8 : ptT Try.prog 8 = none := by kernel_rfl
theorem ik8 : ikT Try.prog 8 = none := by kernel_rfl
theorem us8 : (Try.prog.underlying 8).isSome = true := by kernel_rfl
theorem ze8 : zeT Try.prog 8 = some [.int .i64 0, .int .i64 0, .bool false, .int .u8 0] := by kernel_rfl
theorem fl8_0 : fldT Try.prog 8 0 = some (0, 2) := by kernel_rfl
theorem fl8_1 : fldT Try.prog 8 1 = some (1, 3) := by kernel_rfl
theorem fl8_2 : fldT Try.prog 8 2 = some (2, 4) := by kernel_rfl
theorem fl8_3 : fldT Try.prog 8 3 = some (3, 6) := by kernel_rfl
theorem bu8 : bldT Try.prog 8 = some [(0, 1), (1, 1), (2, 1), (3, 1)] := by kernel_rfl
theorem sz9 : szT Try.prog 9 = 1 := by kernel_rfl
theorem by9 : byT Try.prog 9 = 16 := by kernel_rfl
theorem ag9 : aggT Try.prog 9 = some false := by kernel_rfl
theorem sl9 : slT Try.prog 9 = none := by kernel_rfl
theorem ar9 : arT Try.prog 9 = none := by kernel_rfl
theorem pt9 : ptT Try.prog 9 = none := by kernel_rfl
theorem ik9 : ikT Try.prog 9 = none := by kernel_rfl
theorem us9 : (Try.prog.underlying 9).isSome = true := by kernel_rfl
theorem st9 : Try.prog.underlying 9 = some .string := by kernel_rfl
theorem ze9 : zeT Try.prog 9 = some [.string ⟨#[]⟩] := by kernel_rfl
theorem sz10 : szT Try.prog 10 = 1 := by kernel_rfl
theorem by10 : byT Try.prog 10 = 16 := by kernel_rfl
theorem ag10 : aggT Try.prog 10 = some false := by kernel_rfl
theorem sl10 : slT Try.prog 10 = none := by kernel_rfl
theorem ar10 : arT Try.prog 10 = none := by kernel_rfl
theorem pt10 : ptT Try.prog 10 = none := by kernel_rfl
theorem ik10 : ikT Try.prog 10 = none := by kernel_rfl
theorem us10 : (Try.prog.underlying 10).isSome = true := by kernel_rfl
theorem st10 : Try.prog.underlying 10 = some .string := by kernel_rfl
theorem ze10 : zeT Try.prog 10 = some [.string ⟨#[]⟩] := by kernel_rfl
theorem sz11 : szT Try.prog 11 = 1 := by kernel_rfl
theorem by11 : byT Try.prog 11 = 16 := by kernel_rfl
theorem ag11 : aggT Try.prog 11 = some false := by kernel_rfl
theorem sl11 : slT Try.prog 11 = none := by kernel_rfl
theorem ar11 : arT Try.prog 11 = none := by kernel_rfl
theorem pt11 : ptT Try.prog 11 = none := by kernel_rfl
theorem ik11 : ikT Try.prog 11 = none := by kernel_rfl
theorem us11 : (Try.prog.underlying 11).isSome = true := by kernel_rfl
theorem st11 : Try.prog.underlying 11 = some .string := by kernel_rfl
theorem ze11 : zeT Try.prog 11 = some [.string ⟨#[]⟩] := by kernel_rfl
theorem sz12 : szT Try.prog 12 = 1 := by kernel_rfl
theorem by12 : byT Try.prog 12 = 8 := by kernel_rfl
theorem ag12 : aggT Try.prog 12 = some false := by kernel_rfl
theorem sl12 : slT Try.prog 12 = none := by kernel_rfl
theorem ar12 : arT Try.prog 12 = none := by kernel_rfl
theorem pt12 : ptT Try.prog 12 = none := by kernel_rfl
theorem ik12 : ikT Try.prog 12 = some .u64 := by kernel_rfl
theorem us12 : (Try.prog.underlying 12).isSome = true := by kernel_rfl
theorem ze12 : zeT Try.prog 12 = some [.int .u64 0] := by kernel_rfl
theorem sz13 : szT Try.prog 13 = 2 := by kernel_rfl
theorem by13 : byT Try.prog 13 = 24 := by kernel_rfl
theorem ag13 : aggT Try.prog 13 = some true := by kernel_rfl
theorem sl13 : slT Try.prog 13 = none := by kernel_rfl
theorem ar13 : arT Try.prog 13 = none := by kernel_rfl
theorem pt13 : ptT Try.prog 13 = none := by kernel_rfl
theorem ik13 : ikT Try.prog 13 = none := by kernel_rfl
theorem us13 : (Try.prog.underlying 13).isSome = true := by kernel_rfl
theorem ze13 : zeT Try.prog 13 = some [.string ⟨#[]⟩, .int .u64 0] := by kernel_rfl
theorem fl13_0 : fldT Try.prog 13 0 = some (0, 9) := by kernel_rfl
theorem fl13_1 : fldT Try.prog 13 1 = some (1, 12) := by kernel_rfl
theorem bu13 : bldT Try.prog 13 = some [(0, 1), (1, 1)] := by kernel_rfl
theorem sz14 : szT Try.prog 14 = 2 := by kernel_rfl
theorem by14 : byT Try.prog 14 = 24 := by kernel_rfl
theorem ag14 : aggT Try.prog 14 = some true := by kernel_rfl
theorem sl14 : slT Try.prog 14 = none := by kernel_rfl
theorem ar14 : arT Try.prog 14 = none := by kernel_rfl
theorem pt14 : ptT Try.prog 14 = none := by kernel_rfl
theorem ik14 : ikT Try.prog 14 = none := by kernel_rfl
theorem us14 : (Try.prog.underlying 14).isSome = true := by kernel_rfl
theorem ze14 : zeT Try.prog 14 = some [.string ⟨#[]⟩, .int .u64 0] := by kernel_rfl
theorem fl14_0 : fldT Try.prog 14 0 = some (0, 9) := by kernel_rfl
theorem fl14_1 : fldT Try.prog 14 1 = some (1, 12) := by kernel_rfl
theorem bu14 : bldT Try.prog 14 = some [(0, 1), (1, 1)] := by kernel_rfl
theorem sz15 : szT Try.prog 15 = 1 := by kernel_rfl
theorem by15 : byT Try.prog 15 = 8 := by kernel_rfl
theorem ag15 : aggT Try.prog 15 = some false := by kernel_rfl
theorem sl15 : slT Try.prog 15 = none := by kernel_rfl
theorem ar15 : arT Try.prog 15 = none := by kernel_rfl
theorem pt15 : ptT Try.prog 15 = some 88 := by kernel_rfl
theorem ik15 : ikT Try.prog 15 = none := by kernel_rfl
theorem us15 : (Try.prog.underlying 15).isSome = true := by kernel_rfl
theorem ze15 : zeT Try.prog 15 = some [.pointer none] := by kernel_rfl
theorem sz16 : szT Try.prog 16 = 1 := by kernel_rfl
theorem by16 : byT Try.prog 16 = 8 := by kernel_rfl
theorem ag16 : aggT Try.prog 16 = some false := by kernel_rfl
theorem sl16 : slT Try.prog 16 = none := by kernel_rfl
theorem ar16 : arT Try.prog 16 = none := by kernel_rfl
theorem pt16 : ptT Try.prog 16 = some 91 := by kernel_rfl
theorem ik16 : ikT Try.prog 16 = none := by kernel_rfl
theorem us16 : (Try.prog.underlying 16).isSome = true := by kernel_rfl
theorem ze16 : zeT Try.prog 16 = some [.pointer none] := by kernel_rfl
theorem sz17 : szT Try.prog 17 = 1 := by kernel_rfl
theorem by17 : byT Try.prog 17 = 8 := by kernel_rfl
theorem ag17 : aggT Try.prog 17 = some false := by kernel_rfl
theorem sl17 : slT Try.prog 17 = none := by kernel_rfl
theorem ar17 : arT Try.prog 17 = none := by kernel_rfl
theorem pt17 : ptT Try.prog 17 = some 100 := by kernel_rfl
theorem ik17 : ikT Try.prog 17 = none := by kernel_rfl
theorem us17 : (Try.prog.underlying 17).isSome = true := by kernel_rfl
theorem ze17 : zeT Try.prog 17 = some [.pointer none] := by kernel_rfl
theorem sz18 : szT Try.prog 18 = 1 := by kernel_rfl
theorem by18 : byT Try.prog 18 = 8 := by kernel_rfl
theorem ag18 : aggT Try.prog 18 = some true := by kernel_rfl
theorem sl18 : slT Try.prog 18 = none := by kernel_rfl
theorem ar18 : arT Try.prog 18 = none := by kernel_rfl
theorem pt18 : ptT Try.prog 18 = none := by kernel_rfl
theorem ik18 : ikT Try.prog 18 = none := by kernel_rfl
theorem us18 : (Try.prog.underlying 18).isSome = true := by kernel_rfl
theorem ze18 : zeT Try.prog 18 = some [.pointer none] := by kernel_rfl
theorem fl18_0 : fldT Try.prog 18 0 = some (0, 17) := by kernel_rfl
theorem bu18 : bldT Try.prog 18 = some [(0, 1)] := by kernel_rfl
theorem sz19 : szT Try.prog 19 = 1 := by kernel_rfl
theorem by19 : byT Try.prog 19 = 8 := by kernel_rfl
theorem ag19 : aggT Try.prog 19 = some true := by kernel_rfl
theorem sl19 : slT Try.prog 19 = none := by kernel_rfl
theorem ar19 : arT Try.prog 19 = none := by kernel_rfl
theorem pt19 : ptT Try.prog 19 = none := by kernel_rfl
theorem ik19 : ikT Try.prog 19 = none := by kernel_rfl
theorem us19 : (Try.prog.underlying 19).isSome = true := by kernel_rfl
theorem ze19 : zeT Try.prog 19 = some [.pointer none] := by kernel_rfl
theorem fl19_0 : fldT Try.prog 19 0 = some (0, 17) := by kernel_rfl
theorem bu19 : bldT Try.prog 19 = some [(0, 1)] := by kernel_rfl
theorem sz21 : szT Try.prog 21 = 1 := by kernel_rfl
theorem by21 : byT Try.prog 21 = 4 := by kernel_rfl
theorem ag21 : aggT Try.prog 21 = some false := by kernel_rfl
theorem sl21 : slT Try.prog 21 = none := by kernel_rfl
theorem ar21 : arT Try.prog 21 = none := by kernel_rfl
theorem pt21 : ptT Try.prog 21 = none := by kernel_rfl
theorem ik21 : ikT Try.prog 21 = some .i32 := by kernel_rfl
theorem us21 : (Try.prog.underlying 21).isSome = true := by kernel_rfl
theorem ze21 : zeT Try.prog 21 = some [.int .i32 0] := by kernel_rfl
theorem sz22 : szT Try.prog 22 = 2 := by kernel_rfl
theorem by22 : byT Try.prog 22 = 16 := by kernel_rfl
theorem ag22 : aggT Try.prog 22 = some true := by kernel_rfl
theorem sl22 : slT Try.prog 22 = none := by kernel_rfl
theorem ar22 : arT Try.prog 22 = none := by kernel_rfl
theorem pt22 : ptT Try.prog 22 = none := by kernel_rfl
theorem ik22 : ikT Try.prog 22 = none := by kernel_rfl
theorem us22 : (Try.prog.underlying 22).isSome = true := by kernel_rfl
theorem ze22 : zeT Try.prog 22 = some [.int .i64 0, .int .i64 0] := by kernel_rfl
theorem fl22_0 : fldT Try.prog 22 0 = some (0, 3) := by kernel_rfl
theorem fl22_1 : fldT Try.prog 22 1 = some (1, 3) := by kernel_rfl
theorem bu22 : bldT Try.prog 22 = some [(0, 1), (1, 1)] := by kernel_rfl
theorem sz23 : szT Try.prog 23 = 2 := by kernel_rfl
theorem by23 : byT Try.prog 23 = 16 := by kernel_rfl
theorem ag23 : aggT Try.prog 23 = some true := by kernel_rfl
theorem sl23 : slT Try.prog 23 = none := by kernel_rfl
theorem ar23 : arT Try.prog 23 = none := by kernel_rfl
theorem pt23 : ptT Try.prog 23 = none := by kernel_rfl
theorem ik23 : ikT Try.prog 23 = none := by kernel_rfl
theorem us23 : (Try.prog.underlying 23).isSome = true := by kernel_rfl
theorem ze23 : zeT Try.prog 23 = some [.int .i64 0, .int .i64 0] := by kernel_rfl
theorem fl23_0 : fldT Try.prog 23 0 = some (0, 3) := by kernel_rfl
theorem fl23_1 : fldT Try.prog 23 1 = some (1, 3) := by kernel_rfl
theorem bu23 : bldT Try.prog 23 = some [(0, 1), (1, 1)] := by kernel_rfl
theorem sz24 : szT Try.prog 24 = 8 := by kernel_rfl
theorem by24 : byT Try.prog 24 = 64 := by kernel_rfl
theorem ag24 : aggT Try.prog 24 = some true := by kernel_rfl
theorem sl24 : slT Try.prog 24 = none := by kernel_rfl
theorem ar24 : arT Try.prog 24 = some (4, 23) := by kernel_rfl
theorem pt24 : ptT Try.prog 24 = none := by kernel_rfl
theorem ik24 : ikT Try.prog 24 = none := by kernel_rfl
theorem us24 : (Try.prog.underlying 24).isSome = true := by kernel_rfl
theorem ze24 : zeT Try.prog 24 = some [.int .i64 0, .int .i64 0, .int .i64 0, .int .i64 0, .int .i64 0, .int .i64 0, .int .i64 0, .int .i64 0] := by kernel_rfl
theorem bu24 : bldT Try.prog 24 = some [(0, 2), (2, 2), (4, 2), (6, 2)] := by kernel_rfl
theorem sz25 : szT Try.prog 25 = 1 := by kernel_rfl
theorem by25 : byT Try.prog 25 = 8 := by kernel_rfl
theorem ag25 : aggT Try.prog 25 = some false := by kernel_rfl
theorem sl25 : slT Try.prog 25 = none := by kernel_rfl
theorem ar25 : arT Try.prog 25 = none := by kernel_rfl
theorem pt25 : ptT Try.prog 25 = none := by kernel_rfl
theorem ik25 : ikT Try.prog 25 = some .i64 := by kernel_rfl
theorem us25 : (Try.prog.underlying 25).isSome = true := by kernel_rfl
theorem ze25 : zeT Try.prog 25 = some [.int .i64 0] := by kernel_rfl
theorem sz28 : szT Try.prog 28 = 1 := by kernel_rfl
theorem by28 : byT Try.prog 28 = 24 := by kernel_rfl
theorem ag28 : aggT Try.prog 28 = some false := by kernel_rfl
theorem sl28 : slT Try.prog 28 = some 23 := by kernel_rfl
theorem ar28 : arT Try.prog 28 = none := by kernel_rfl
theorem pt28 : ptT Try.prog 28 = none := by kernel_rfl
theorem ik28 : ikT Try.prog 28 = none := by kernel_rfl
theorem us28 : (Try.prog.underlying 28).isSome = true := by kernel_rfl
theorem ze28 : zeT Try.prog 28 = some [.slice none 0 0] := by kernel_rfl
theorem sz36 : szT Try.prog 36 = 1 := by kernel_rfl
theorem by36 : byT Try.prog 36 = 8 := by kernel_rfl
theorem ag36 : aggT Try.prog 36 = some false := by kernel_rfl
theorem sl36 : slT Try.prog 36 = none := by kernel_rfl
theorem ar36 : arT Try.prog 36 = none := by kernel_rfl
theorem pt36 : ptT Try.prog 36 = none := by kernel_rfl
theorem ik36 : ikT Try.prog 36 = some .u64 := by kernel_rfl
theorem us36 : (Try.prog.underlying 36).isSome = true := by kernel_rfl
theorem ze36 : zeT Try.prog 36 = some [.int .u64 0] := by kernel_rfl
theorem sz37 : szT Try.prog 37 = 2 := by kernel_rfl
theorem by37 : byT Try.prog 37 = 32 := by kernel_rfl
theorem ag37 : aggT Try.prog 37 = some true := by kernel_rfl
theorem sl37 : slT Try.prog 37 = none := by kernel_rfl
theorem ar37 : arT Try.prog 37 = none := by kernel_rfl
theorem pt37 : ptT Try.prog 37 = none := by kernel_rfl
theorem ik37 : ikT Try.prog 37 = none := by kernel_rfl
theorem us37 : (Try.prog.underlying 37).isSome = true := by kernel_rfl
theorem ze37 : zeT Try.prog 37 = some [.slice none 0 0, .bool false] := by kernel_rfl
theorem fl37_0 : fldT Try.prog 37 0 = some (0, 28) := by kernel_rfl
theorem fl37_1 : fldT Try.prog 37 1 = some (1, 4) := by kernel_rfl
theorem bu37 : bldT Try.prog 37 = some [(0, 1), (1, 1)] := by kernel_rfl
theorem sz38 : szT Try.prog 38 = 2 := by kernel_rfl
theorem by38 : byT Try.prog 38 = 32 := by kernel_rfl
theorem ag38 : aggT Try.prog 38 = some true := by kernel_rfl
theorem sl38 : slT Try.prog 38 = none := by kernel_rfl
theorem ar38 : arT Try.prog 38 = none := by kernel_rfl
theorem pt38 : ptT Try.prog 38 = none := by kernel_rfl
theorem ik38 : ikT Try.prog 38 = none := by kernel_rfl
theorem us38 : (Try.prog.underlying 38).isSome = true := by kernel_rfl
theorem ze38 : zeT Try.prog 38 = some [.slice none 0 0, .bool false] := by kernel_rfl
theorem fl38_0 : fldT Try.prog 38 0 = some (0, 28) := by kernel_rfl
theorem fl38_1 : fldT Try.prog 38 1 = some (1, 4) := by kernel_rfl
theorem bu38 : bldT Try.prog 38 = some [(0, 1), (1, 1)] := by kernel_rfl
theorem sz52 : szT Try.prog 52 = 4 := by kernel_rfl
theorem by52 : byT Try.prog 52 = 32 := by kernel_rfl
theorem ag52 : aggT Try.prog 52 = some true := by kernel_rfl
theorem sl52 : slT Try.prog 52 = none := by kernel_rfl
theorem ar52 : arT Try.prog 52 = some (2, 23) := by kernel_rfl
theorem pt52 : ptT Try.prog 52 = none := by kernel_rfl
theorem ik52 : ikT Try.prog 52 = none := by kernel_rfl
theorem us52 : (Try.prog.underlying 52).isSome = true := by kernel_rfl
theorem ze52 : zeT Try.prog 52 = some [.int .i64 0, .int .i64 0, .int .i64 0, .int .i64 0] := by kernel_rfl
theorem bu52 : bldT Try.prog 52 = some [(0, 2), (2, 2)] := by kernel_rfl
theorem sz58 : szT Try.prog 58 = 8 := by kernel_rfl
theorem by58 : byT Try.prog 58 = 64 := by kernel_rfl
theorem ag58 : aggT Try.prog 58 = some true := by kernel_rfl
theorem sl58 : slT Try.prog 58 = none := by kernel_rfl
theorem ar58 : arT Try.prog 58 = some (4, 23) := by kernel_rfl
theorem pt58 : ptT Try.prog 58 = none := by kernel_rfl
theorem ik58 : ikT Try.prog 58 = none := by kernel_rfl
theorem us58 : (Try.prog.underlying 58).isSome = true := by kernel_rfl
theorem ze58 : zeT Try.prog 58 = some [.int .i64 0, .int .i64 0, .int .i64 0, .int .i64 0, .int .i64 0, .int .i64 0, .int .i64 0, .int .i64 0] := by kernel_rfl
theorem bu58 : bldT Try.prog 58 = some [(0, 2), (2, 2), (4, 2), (6, 2)] := by kernel_rfl
theorem sz73 : szT Try.prog 73 = 4 := by kernel_rfl
theorem by73 : byT Try.prog 73 = 32 := by kernel_rfl
theorem ag73 : aggT Try.prog 73 = some true := by kernel_rfl
theorem sl73 : slT Try.prog 73 = none := by kernel_rfl
theorem ar73 : arT Try.prog 73 = some (4, 3) := by kernel_rfl
theorem pt73 : ptT Try.prog 73 = none := by kernel_rfl
theorem ik73 : ikT Try.prog 73 = none := by kernel_rfl
theorem us73 : (Try.prog.underlying 73).isSome = true := by kernel_rfl
theorem ze73 : zeT Try.prog 73 = some [.int .i64 0, .int .i64 0, .int .i64 0, .int .i64 0] := by kernel_rfl
theorem bu73 : bldT Try.prog 73 = some [(0, 1), (1, 1), (2, 1), (3, 1)] := by kernel_rfl
theorem sz87 : szT Try.prog 87 = 4 := by kernel_rfl
theorem by87 : byT Try.prog 87 = 40 := by kernel_rfl
theorem ag87 : aggT Try.prog 87 = some true := by kernel_rfl
theorem sl87 : slT Try.prog 87 = none := by kernel_rfl
theorem ar87 : arT Try.prog 87 = none := by kernel_rfl
theorem pt87 : ptT Try.prog 87 = none := by kernel_rfl
theorem ik87 : ikT Try.prog 87 = none := by kernel_rfl
theorem us87 : (Try.prog.underlying 87).isSome = true := by kernel_rfl
theorem ze87 : zeT Try.prog 87 = some [.pointer none, .pointer none, .pointer none, .string ⟨#[]⟩] := by kernel_rfl
theorem fl87_0 : fldT Try.prog 87 0 = some (0, 17) := by kernel_rfl
theorem fl87_1 : fldT Try.prog 87 1 = some (1, 17) := by kernel_rfl
theorem fl87_2 : fldT Try.prog 87 2 = some (2, 17) := by kernel_rfl
theorem fl87_3 : fldT Try.prog 87 3 = some (3, 9) := by kernel_rfl
theorem bu87 : bldT Try.prog 87 = some [(0, 1), (1, 1), (2, 1), (3, 1)] := by kernel_rfl
theorem sz88 : szT Try.prog 88 = 4 := by kernel_rfl
theorem by88 : byT Try.prog 88 = 40 := by kernel_rfl
theorem ag88 : aggT Try.prog 88 = some true := by kernel_rfl
theorem sl88 : slT Try.prog 88 = none := by kernel_rfl
theorem ar88 : arT Try.prog 88 = none := by kernel_rfl
theorem pt88 : ptT Try.prog 88 = none := by kernel_rfl
theorem ik88 : ikT Try.prog 88 = none := by kernel_rfl
theorem us88 : (Try.prog.underlying 88).isSome = true := by kernel_rfl
theorem ze88 : zeT Try.prog 88 = some [.pointer none, .pointer none, .pointer none, .string ⟨#[]⟩] := by kernel_rfl
theorem fl88_0 : fldT Try.prog 88 0 = some (0, 17) := by kernel_rfl
theorem fl88_1 : fldT Try.prog 88 1 = some (1, 17) := by kernel_rfl
theorem fl88_2 : fldT Try.prog 88 2 = some (2, 17) := by kernel_rfl
theorem fl88_3 : fldT Try.prog 88 3 = some (3, 9) := by kernel_rfl
theorem bu88 : bldT Try.prog 88 = some [(0, 1), (1, 1), (2, 1), (3, 1)] := by kernel_rfl
theorem sz89 : szT Try.prog 89 = 0 := by kernel_rfl
theorem by89 : byT Try.prog 89 = 0 := by kernel_rfl
theorem ag89 : aggT Try.prog 89 = some true := by kernel_rfl
theorem sl89 : slT Try.prog 89 = none := by kernel_rfl
theorem ar89 : arT Try.prog 89 = some (0, 16) := by kernel_rfl
theorem pt89 : ptT Try.prog 89 = none := by kernel_rfl
theorem ik89 : ikT Try.prog 89 = none := by kernel_rfl
theorem us89 : (Try.prog.underlying 89).isSome = true := by kernel_rfl
theorem ze89 : zeT Try.prog 89 = some [] := by kernel_rfl
theorem bu89 : bldT Try.prog 89 = some [] := by kernel_rfl
theorem sz90 : szT Try.prog 90 = 0 := by kernel_rfl
theorem by90 : byT Try.prog 90 = 0 := by kernel_rfl
theorem ag90 : aggT Try.prog 90 = some true := by kernel_rfl
theorem sl90 : slT Try.prog 90 = none := by kernel_rfl
theorem ar90 : arT Try.prog 90 = none := by kernel_rfl
theorem pt90 : ptT Try.prog 90 = none := by kernel_rfl
theorem ik90 : ikT Try.prog 90 = none := by kernel_rfl
theorem us90 : (Try.prog.underlying 90).isSome = true := by kernel_rfl
theorem ze90 : zeT Try.prog 90 = some [] := by kernel_rfl
theorem fl90_0 : fldT Try.prog 90 0 = some (0, 89) := by kernel_rfl
theorem sz91 : szT Try.prog 91 = 0 := by kernel_rfl
theorem by91 : byT Try.prog 91 = 0 := by kernel_rfl
theorem ag91 : aggT Try.prog 91 = some true := by kernel_rfl
theorem sl91 : slT Try.prog 91 = none := by kernel_rfl
theorem ar91 : arT Try.prog 91 = none := by kernel_rfl
theorem pt91 : ptT Try.prog 91 = none := by kernel_rfl
theorem ik91 : ikT Try.prog 91 = none := by kernel_rfl
theorem us91 : (Try.prog.underlying 91).isSome = true := by kernel_rfl
theorem ze91 : zeT Try.prog 91 = some [] := by kernel_rfl
theorem fl91_0 : fldT Try.prog 91 0 = some (0, 89) := by kernel_rfl
theorem sz92 : szT Try.prog 92 = 1 := by kernel_rfl
theorem by92 : byT Try.prog 92 = 4 := by kernel_rfl
theorem ag92 : aggT Try.prog 92 = some false := by kernel_rfl
theorem sl92 : slT Try.prog 92 = none := by kernel_rfl
theorem ar92 : arT Try.prog 92 = none := by kernel_rfl
theorem pt92 : ptT Try.prog 92 = none := by kernel_rfl
theorem ik92 : ikT Try.prog 92 = some .u32 := by kernel_rfl
theorem us92 : (Try.prog.underlying 92).isSome = true := by kernel_rfl
theorem ze92 : zeT Try.prog 92 = some [.int .u32 0] := by kernel_rfl
theorem sz93 : szT Try.prog 93 = 1 := by kernel_rfl
theorem by93 : byT Try.prog 93 = 1 := by kernel_rfl
theorem ag93 : aggT Try.prog 93 = some false := by kernel_rfl
theorem sl93 : slT Try.prog 93 = none := by kernel_rfl
theorem ar93 : arT Try.prog 93 = none := by kernel_rfl
theorem pt93 : ptT Try.prog 93 = none := by kernel_rfl
theorem ik93 : ikT Try.prog 93 = some .u8 := by kernel_rfl
theorem us93 : (Try.prog.underlying 93).isSome = true := by kernel_rfl
theorem ze93 : zeT Try.prog 93 = some [.int .u8 0] := by kernel_rfl
theorem sz94 : szT Try.prog 94 = 1 := by kernel_rfl
theorem by94 : byT Try.prog 94 = 1 := by kernel_rfl
theorem ag94 : aggT Try.prog 94 = some false := by kernel_rfl
theorem sl94 : slT Try.prog 94 = none := by kernel_rfl
theorem ar94 : arT Try.prog 94 = none := by kernel_rfl
theorem pt94 : ptT Try.prog 94 = none := by kernel_rfl
theorem ik94 : ikT Try.prog 94 = some .u8 := by kernel_rfl
theorem us94 : (Try.prog.underlying 94).isSome = true := by kernel_rfl
theorem ze94 : zeT Try.prog 94 = some [.int .u8 0] := by kernel_rfl
theorem sz96 : szT Try.prog 96 = 1 := by kernel_rfl
theorem by96 : byT Try.prog 96 = 8 := by kernel_rfl
theorem ag96 : aggT Try.prog 96 = some false := by kernel_rfl
theorem sl96 : slT Try.prog 96 = none := by kernel_rfl
theorem ar96 : arT Try.prog 96 = none := by kernel_rfl
theorem pt96 : ptT Try.prog 96 = some 5 := by kernel_rfl
theorem ik96 : ikT Try.prog 96 = none := by kernel_rfl
theorem us96 : (Try.prog.underlying 96).isSome = true := by kernel_rfl
theorem ze96 : zeT Try.prog 96 = some [.pointer none] := by kernel_rfl
theorem sz97 : szT Try.prog 97 = 1 := by kernel_rfl
theorem by97 : byT Try.prog 97 = 4 := by kernel_rfl
theorem ag97 : aggT Try.prog 97 = some false := by kernel_rfl
theorem sl97 : slT Try.prog 97 = none := by kernel_rfl
theorem ar97 : arT Try.prog 97 = none := by kernel_rfl
theorem pt97 : ptT Try.prog 97 = none := by kernel_rfl
theorem ik97 : ikT Try.prog 97 = some .i32 := by kernel_rfl
theorem us97 : (Try.prog.underlying 97).isSome = true := by kernel_rfl
theorem ze97 : zeT Try.prog 97 = some [.int .i32 0] := by kernel_rfl
theorem sz98 : szT Try.prog 98 = 1 := by kernel_rfl
theorem by98 : byT Try.prog 98 = 4 := by kernel_rfl
theorem ag98 : aggT Try.prog 98 = some false := by kernel_rfl
theorem sl98 : slT Try.prog 98 = none := by kernel_rfl
theorem ar98 : arT Try.prog 98 = none := by kernel_rfl
theorem pt98 : ptT Try.prog 98 = none := by kernel_rfl
theorem ik98 : ikT Try.prog 98 = some .i32 := by kernel_rfl
theorem us98 : (Try.prog.underlying 98).isSome = true := by kernel_rfl
theorem ze98 : zeT Try.prog 98 = some [.int .i32 0] := by kernel_rfl
theorem sz99 : szT Try.prog 99 = 11 := by kernel_rfl
theorem by99 : byT Try.prog 99 = 48 := by kernel_rfl
theorem ag99 : aggT Try.prog 99 = some true := by kernel_rfl
theorem sl99 : slT Try.prog 99 = none := by kernel_rfl
theorem ar99 : arT Try.prog 99 = none := by kernel_rfl
theorem pt99 : ptT Try.prog 99 = none := by kernel_rfl
theorem ik99 : ikT Try.prog 99 = none := by kernel_rfl
theorem us99 : (Try.prog.underlying 99).isSome = true := by kernel_rfl
theorem ze99 : zeT Try.prog 99 = some [.int .u64 0, .int .u64 0, .int .u32 0, .int .u8 0, .int .u8 0, .int .u8 0, .int .u8 0, .nilFunc, .pointer none, .int .i32 0, .int .i32 0] := by kernel_rfl
theorem fl99_0 : fldT Try.prog 99 0 = some (0, 12) := by kernel_rfl
theorem fl99_1 : fldT Try.prog 99 1 = some (1, 12) := by kernel_rfl
theorem fl99_2 : fldT Try.prog 99 2 = some (2, 92) := by kernel_rfl
theorem fl99_3 : fldT Try.prog 99 3 = some (3, 93) := by kernel_rfl
theorem fl99_4 : fldT Try.prog 99 4 = some (4, 5) := by kernel_rfl
theorem fl99_5 : fldT Try.prog 99 5 = some (5, 5) := by kernel_rfl
theorem fl99_6 : fldT Try.prog 99 6 = some (6, 94) := by kernel_rfl
theorem fl99_7 : fldT Try.prog 99 7 = some (7, 95) := by kernel_rfl
theorem fl99_8 : fldT Try.prog 99 8 = some (8, 96) := by kernel_rfl
theorem fl99_9 : fldT Try.prog 99 9 = some (9, 97) := by kernel_rfl
theorem fl99_10 : fldT Try.prog 99 10 = some (10, 98) := by kernel_rfl
theorem sz100 : szT Try.prog 100 = 11 := by kernel_rfl
theorem by100 : byT Try.prog 100 = 48 := by kernel_rfl
theorem ag100 : aggT Try.prog 100 = some true := by kernel_rfl
theorem sl100 : slT Try.prog 100 = none := by kernel_rfl
theorem ar100 : arT Try.prog 100 = none := by kernel_rfl
theorem pt100 : ptT Try.prog 100 = none := by kernel_rfl
theorem ik100 : ikT Try.prog 100 = none := by kernel_rfl
theorem us100 : (Try.prog.underlying 100).isSome = true := by kernel_rfl
theorem ze100 : zeT Try.prog 100 = some [.int .u64 0, .int .u64 0, .int .u32 0, .int .u8 0, .int .u8 0, .int .u8 0, .int .u8 0, .nilFunc, .pointer none, .int .i32 0, .int .i32 0] := by kernel_rfl
theorem fl100_0 : fldT Try.prog 100 0 = some (0, 12) := by kernel_rfl
theorem fl100_1 : fldT Try.prog 100 1 = some (1, 12) := by kernel_rfl
theorem fl100_2 : fldT Try.prog 100 2 = some (2, 92) := by kernel_rfl
theorem fl100_3 : fldT Try.prog 100 3 = some (3, 93) := by kernel_rfl
theorem fl100_4 : fldT Try.prog 100 4 = some (4, 5) := by kernel_rfl
theorem fl100_5 : fldT Try.prog 100 5 = some (5, 5) := by kernel_rfl
theorem fl100_6 : fldT Try.prog 100 6 = some (6, 94) := by kernel_rfl
theorem fl100_7 : fldT Try.prog 100 7 = some (7, 95) := by kernel_rfl
theorem fl100_8 : fldT Try.prog 100 8 = some (8, 96) := by kernel_rfl
theorem fl100_9 : fldT Try.prog 100 9 = some (9, 97) := by kernel_rfl
theorem fl100_10 : fldT Try.prog 100 10 = some (10, 98) := by kernel_rfl
theorem sz101 : szT Try.prog 101 = 1 := by kernel_rfl
theorem by101 : byT Try.prog 101 = 8 := by kernel_rfl
theorem ag101 : aggT Try.prog 101 = some false := by kernel_rfl
theorem sl101 : slT Try.prog 101 = none := by kernel_rfl
theorem ar101 : arT Try.prog 101 = none := by kernel_rfl
theorem pt101 : ptT Try.prog 101 = none := by kernel_rfl
theorem ik101 : ikT Try.prog 101 = none := by kernel_rfl
theorem us101 : (Try.prog.underlying 101).isSome = true := by kernel_rfl
theorem ze101 : zeT Try.prog 101 = some [.pointer none] := by kernel_rfl
end T
end Go.Proofs.Ytdhdopmjaibggaa
