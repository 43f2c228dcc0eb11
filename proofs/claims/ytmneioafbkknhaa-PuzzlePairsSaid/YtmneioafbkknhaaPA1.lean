import Derived.Test.YtmneioafbkknhaaProg
import Derived.Test.YtmneioafbkknhaaPSC
import Derived.KernelRfl
set_option linter.unusedVariables false
set_option linter.unusedSimpArgs false
set_option maxRecDepth 20000
namespace Go.Proofs.Ytmneioafbkknhaa
open Go Go.PS
theorem mixed : Try.prog.follows .mixedOrders = true := by kernel_rfl

@[simp] theorem f_sz1 : szT Try.prog 1 = some 1 := by kernel_rfl
@[simp] theorem f_ag1 : aggT Try.prog 1 = some false := by kernel_rfl
@[simp] theorem f_ib1 : isBoolT Try.prog 1 = false := by kernel_rfl
@[simp] theorem f_is1 : isSlT Try.prog 1 = false := by kernel_rfl
@[simp] theorem f_by1 : byT Try.prog 1 = some 8 := by kernel_rfl
@[simp] theorem f_z1 : zT Try.prog 1 = some [.nilFunc] := by kernel_rfl
@[simp] theorem f_sz2 : szT Try.prog 2 = some 1 := by kernel_rfl
@[simp] theorem f_ag2 : aggT Try.prog 2 = some false := by kernel_rfl
@[simp] theorem f_ib2 : isBoolT Try.prog 2 = false := by kernel_rfl
@[simp] theorem f_is2 : isSlT Try.prog 2 = false := by kernel_rfl
@[simp] theorem f_by2 : byT Try.prog 2 = some 8 := by kernel_rfl
@[simp] theorem f_z2 : zT Try.prog 2 = some [.int .i64 0] := by kernel_rfl
@[simp] theorem f_sz3 : szT Try.prog 3 = some 1 := by kernel_rfl
@[simp] theorem f_ag3 : aggT Try.prog 3 = some false := by kernel_rfl
@[simp] theorem f_ib3 : isBoolT Try.prog 3 = false := by kernel_rfl
@[simp] theorem f_is3 : isSlT Try.prog 3 = false := by kernel_rfl
@[simp] theorem f_by3 : byT Try.prog 3 = some 8 := by kernel_rfl
@[simp] theorem f_z3 : zT Try.prog 3 = some [.int .i64 0] := by kernel_rfl
@[simp] theorem f_sz4 : szT Try.prog 4 = some 1 := by kernel_rfl
@[simp] theorem f_ag4 : aggT Try.prog 4 = some false := by kernel_rfl
@[simp] theorem f_ib4 : isBoolT Try.prog 4 = true := by kernel_rfl
@[simp] theorem f_is4 : isSlT Try.prog 4 = false := by kernel_rfl
@[simp] theorem f_by4 : byT Try.prog 4 = some 1 := by kernel_rfl
@[simp] theorem f_z4 : zT Try.prog 4 = some [.bool false] := by kernel_rfl
@[simp] theorem f_sz5 : szT Try.prog 5 = some 1 := by kernel_rfl
@[simp] theorem f_ag5 : aggT Try.prog 5 = some false := by kernel_rfl
@[simp] theorem f_ib5 : isBoolT Try.prog 5 = false := by kernel_rfl
@[simp] theorem f_is5 : isSlT Try.prog 5 = false := by kernel_rfl
@[simp] theorem f_by5 : byT Try.prog 5 = some 1 := by kernel_rfl
@[simp] theorem f_z5 : zT Try.prog 5 = some [.int .u8 0] := by kernel_rfl
@[simp] theorem f_sz6 : szT Try.prog 6 = some 1 := by kernel_rfl
@[simp] theorem f_ag6 : aggT Try.prog 6 = some false := by kernel_rfl
@[simp] theorem f_ib6 : isBoolT Try.prog 6 = false := by kernel_rfl
@[simp] theorem f_is6 : isSlT Try.prog 6 = false := by kernel_rfl
@[simp] theorem f_by6 : byT Try.prog 6 = some 1 := by kernel_rfl
@[simp] theorem f_z6 : zT Try.prog 6 = some [.int .u8 0] := by kernel_rfl
@[simp] theorem f_sz7 : szT Try.prog 7 = some 4 := by kernel_rfl
@[simp] theorem f_ag7 : aggT Try.prog 7 = some true := by kernel_rfl
@[simp] theorem f_ib7 : isBoolT Try.prog 7 = false := by kernel_rfl
@[simp] theorem f_is7 : isSlT Try.prog 7 = false := by kernel_rfl
@[simp] theorem f_by7 : byT Try.prog 7 = some 24 := by kernel_rfl
@[simp] theorem f_z7 : zT Try.prog 7 = some [.int .i64 0, .int .i64 0, .bool false, .int .u8 0] := by kernel_rfl
@[simp] theorem f_ok7 : fldsOk Try.prog 7 = true := by kernel_rfl
@[simp] theorem f_fld7_0 : fldT Try.prog 7 0 = some (0, 1) := by kernel_rfl
@[simp] theorem f_fldA7_0 : fldA Try.prog 7 0 = some false := by kernel_rfl
@[simp] theorem f_pl7_0 : placeT Try.prog 7 0 = some (0, 1) := by kernel_rfl
@[simp] theorem f_fld7_1 : fldT Try.prog 7 1 = some (1, 1) := by kernel_rfl
@[simp] theorem f_fldA7_1 : fldA Try.prog 7 1 = some false := by kernel_rfl
@[simp] theorem f_pl7_1 : placeT Try.prog 7 1 = some (1, 1) := by kernel_rfl
@[simp] theorem f_fld7_2 : fldT Try.prog 7 2 = some (2, 1) := by kernel_rfl
@[simp] theorem f_fldA7_2 : fldA Try.prog 7 2 = some false := by kernel_rfl
@[simp] theorem f_pl7_2 : placeT Try.prog 7 2 = some (2, 1) := by kernel_rfl
@[simp] theorem f_fld7_3 : fldT Try.prog 7 3 = some (3, 1) := by kernel_rfl
@[simp] theorem f_fldA7_3 : fldA Try.prog 7 3 = some false := by kernel_rfl
@[simp] theorem f_pl7_3 : placeT Try.prog 7 3 = some (3, 1) := by kernel_rfl
@[simp] theorem f_sz8 : szT Try.prog 8 = some 4 := by kernel_rfl
@[simp] theorem f_ag8 : aggT Try.prog 8 = some true := by kernel_rfl
@[simp] theorem f_ib8 : isBoolT Try.prog 8 = false := by kernel_rfl
@[simp] theorem f_is8 : isSlT Try.prog 8 = false := by kernel_rfl
@[simp] theorem f_by8 : byT Try.prog 8 = some 24 := by kernel_rfl
@[simp] theorem f_z8 : zT Try.prog 8 = some [.int .i64 0, .int .i64 0, .bool false, .int .u8 0] := by kernel_rfl
@[simp] theorem f_ok8 : fldsOk Try.prog 8 = true := by kernel_rfl
@[simp] theorem f_fld8_0 : fldT Try.prog 8 0 = some (0, 1) := by kernel_rfl
@[simp] theorem f_fldA8_0 : fldA Try.prog 8 0 = some false := by kernel_rfl
@[simp] theorem f_pl8_0 : placeT Try.prog 8 0 = some (0, 1) := by kernel_rfl
@[simp] theorem f_fld8_1 : fldT Try.prog 8 1 = some (1, 1) := by kernel_rfl
@[simp] theorem f_fldA8_1 : fldA Try.prog 8 1 = some false := by kernel_rfl
@[simp] theorem f_pl8_1 : placeT Try.prog 8 1 = some (1, 1) := by kernel_rfl
@[simp] theorem f_fld8_2 : fldT Try.prog 8 2 = some (2, 1) := by kernel_rfl
@[simp] theorem f_fldA8_2 : fldA Try.prog 8 2 = some false := by kernel_rfl
@[simp] theorem f_pl8_2 : placeT Try.prog 8 2 = some (2, 1) := by kernel_rfl
@[simp] theorem f_fld8_3 : fldT Try.prog 8 3 = some (3, 1) := by kernel_rfl
@[simp] theorem f_fldA8_3 : fldA Try.prog 8 3 = some false := by kernel_rfl
@[simp] theorem f_pl8_3 : placeT Try.prog 8 3 = some (3, 1) := by kernel_rfl
@[simp] theorem f_sz9 : szT Try.prog 9 = some 1 := by kernel_rfl
@[simp] theorem f_ag9 : aggT Try.prog 9 = some false := by kernel_rfl
@[simp] theorem f_ib9 : isBoolT Try.prog 9 = false := by kernel_rfl
@[simp] theorem f_is9 : isSlT Try.prog 9 = false := by kernel_rfl
@[simp] theorem f_sz10 : szT Try.prog 10 = some 1 := by kernel_rfl
@[simp] theorem f_ag10 : aggT Try.prog 10 = some false := by kernel_rfl
@[simp] theorem f_ib10 : isBoolT Try.prog 10 = false := by kernel_rfl
@[simp] theorem f_is10 : isSlT Try.prog 10 = false := by kernel_rfl
@[simp] theorem f_sz11 : szT Try.prog 11 = some 1 := by kernel_rfl
@[simp] theorem f_ag11 : aggT Try.prog 11 = some false := by kernel_rfl
@[simp] theorem f_ib11 : isBoolT Try.prog 11 = false := by kernel_rfl
@[simp] theorem f_is11 : isSlT Try.prog 11 = false := by kernel_rfl
@[simp] theorem f_sz12 : szT Try.prog 12 = some 1 := by kernel_rfl
@[simp] theorem f_ag12 : aggT Try.prog 12 = some false := by kernel_rfl
@[simp] theorem f_ib12 : isBoolT Try.prog 12 = false := by kernel_rfl
@[simp] theorem f_is12 : isSlT Try.prog 12 = false := by kernel_rfl
@[simp] theorem f_by12 : byT Try.prog 12 = some 8 := by kernel_rfl
@[simp] theorem f_z12 : zT Try.prog 12 = some [.int .u64 0] := by kernel_rfl
@[simp] theorem f_sz13 : szT Try.prog 13 = some 2 := by kernel_rfl
@[simp] theorem f_ag13 : aggT Try.prog 13 = some true := by kernel_rfl
@[simp] theorem f_ib13 : isBoolT Try.prog 13 = false := by kernel_rfl
@[simp] theorem f_is13 : isSlT Try.prog 13 = false := by kernel_rfl
@[simp] theorem f_sz14 : szT Try.prog 14 = some 2 := by kernel_rfl
@[simp] theorem f_ag14 : aggT Try.prog 14 = some true := by kernel_rfl
@[simp] theorem f_ib14 : isBoolT Try.prog 14 = false := by kernel_rfl
@[simp] theorem f_is14 : isSlT Try.prog 14 = false := by kernel_rfl
@[simp] theorem f_sz15 : szT Try.prog 15 = some 1 := by kernel_rfl
@[simp] theorem f_ag15 : aggT Try.prog 15 = some false := by kernel_rfl
@[simp] theorem f_ib15 : isBoolT Try.prog 15 = false := by kernel_rfl
@[simp] theorem f_is15 : isSlT Try.prog 15 = false := by kernel_rfl
@[simp] theorem f_by15 : byT Try.prog 15 = some 8 := by kernel_rfl
@[simp] theorem f_z15 : zT Try.prog 15 = some [.pointer none] := by kernel_rfl
@[simp] theorem f_sz16 : szT Try.prog 16 = some 1 := by kernel_rfl
@[simp] theorem f_ag16 : aggT Try.prog 16 = some false := by kernel_rfl
@[simp] theorem f_ib16 : isBoolT Try.prog 16 = false := by kernel_rfl
@[simp] theorem f_is16 : isSlT Try.prog 16 = false := by kernel_rfl
@[simp] theorem f_by16 : byT Try.prog 16 = some 8 := by kernel_rfl
@[simp] theorem f_z16 : zT Try.prog 16 = some [.pointer none] := by kernel_rfl
@[simp] theorem f_sz17 : szT Try.prog 17 = some 1 := by kernel_rfl
@[simp] theorem f_ag17 : aggT Try.prog 17 = some false := by kernel_rfl
@[simp] theorem f_ib17 : isBoolT Try.prog 17 = false := by kernel_rfl
@[simp] theorem f_is17 : isSlT Try.prog 17 = false := by kernel_rfl
@[simp] theorem f_by17 : byT Try.prog 17 = some 8 := by kernel_rfl
@[simp] theorem f_z17 : zT Try.prog 17 = some [.pointer none] := by kernel_rfl
@[simp] theorem f_sz18 : szT Try.prog 18 = some 1 := by kernel_rfl
@[simp] theorem f_ag18 : aggT Try.prog 18 = some true := by kernel_rfl
@[simp] theorem f_ib18 : isBoolT Try.prog 18 = false := by kernel_rfl
@[simp] theorem f_is18 : isSlT Try.prog 18 = false := by kernel_rfl
@[simp] theorem f_by18 : byT Try.prog 18 = some 8 := by kernel_rfl
@[simp] theorem f_z18 : zT Try.prog 18 = some [.pointer none] := by kernel_rfl
@[simp] theorem f_ok18 : fldsOk Try.prog 18 = true := by kernel_rfl
@[simp] theorem f_fld18_0 : fldT Try.prog 18 0 = some (0, 1) := by kernel_rfl
@[simp] theorem f_fldA18_0 : fldA Try.prog 18 0 = some false := by kernel_rfl
@[simp] theorem f_pl18_0 : placeT Try.prog 18 0 = some (0, 1) := by kernel_rfl
@[simp] theorem f_sz19 : szT Try.prog 19 = some 1 := by kernel_rfl
@[simp] theorem f_ag19 : aggT Try.prog 19 = some true := by kernel_rfl
@[simp] theorem f_ib19 : isBoolT Try.prog 19 = false := by kernel_rfl
@[simp] theorem f_is19 : isSlT Try.prog 19 = false := by kernel_rfl
@[simp] theorem f_by19 : byT Try.prog 19 = some 8 := by kernel_rfl
@[simp] theorem f_z19 : zT Try.prog 19 = some [.pointer none] := by kernel_rfl
@[simp] theorem f_ok19 : fldsOk Try.prog 19 = true := by kernel_rfl
@[simp] theorem f_fld19_0 : fldT Try.prog 19 0 = some (0, 1) := by kernel_rfl
@[simp] theorem f_fldA19_0 : fldA Try.prog 19 0 = some false := by kernel_rfl
@[simp] theorem f_pl19_0 : placeT Try.prog 19 0 = some (0, 1) := by kernel_rfl
@[simp] theorem f_sz21 : szT Try.prog 21 = some 1 := by kernel_rfl
@[simp] theorem f_ag21 : aggT Try.prog 21 = some false := by kernel_rfl
@[simp] theorem f_ib21 : isBoolT Try.prog 21 = false := by kernel_rfl
@[simp] theorem f_is21 : isSlT Try.prog 21 = false := by kernel_rfl
@[simp] theorem f_by21 : byT Try.prog 21 = some 4 := by kernel_rfl
@[simp] theorem f_z21 : zT Try.prog 21 = some [.int .i32 0] := by kernel_rfl
@[simp] theorem f_sz22 : szT Try.prog 22 = some 1 := by kernel_rfl
@[simp] theorem f_ag22 : aggT Try.prog 22 = some false := by kernel_rfl
@[simp] theorem f_ib22 : isBoolT Try.prog 22 = false := by kernel_rfl
@[simp] theorem f_is22 : isSlT Try.prog 22 = true := by kernel_rfl
@[simp] theorem f_by22 : byT Try.prog 22 = some 24 := by kernel_rfl
@[simp] theorem f_z22 : zT Try.prog 22 = some [.slice none 0 0] := by kernel_rfl
@[simp] theorem f_sl22 : slT Try.prog 22 = some 2 := by kernel_rfl
@[simp] theorem f_el22 : elT Try.prog 22 = some 46 := by kernel_rfl
@[simp] theorem f_sz23 : szT Try.prog 23 = some 1 := by kernel_rfl
@[simp] theorem f_ag23 : aggT Try.prog 23 = some false := by kernel_rfl
@[simp] theorem f_ib23 : isBoolT Try.prog 23 = false := by kernel_rfl
@[simp] theorem f_is23 : isSlT Try.prog 23 = true := by kernel_rfl
@[simp] theorem f_by23 : byT Try.prog 23 = some 24 := by kernel_rfl
@[simp] theorem f_z23 : zT Try.prog 23 = some [.slice none 0 0] := by kernel_rfl
@[simp] theorem f_sl23 : slT Try.prog 23 = some 2 := by kernel_rfl
@[simp] theorem f_el23 : elT Try.prog 23 = some 87 := by kernel_rfl
@[simp] theorem f_sz24 : szT Try.prog 24 = some 3 := by kernel_rfl
@[simp] theorem f_ag24 : aggT Try.prog 24 = some true := by kernel_rfl
@[simp] theorem f_ib24 : isBoolT Try.prog 24 = false := by kernel_rfl
@[simp] theorem f_is24 : isSlT Try.prog 24 = false := by kernel_rfl
@[simp] theorem f_by24 : byT Try.prog 24 = some 56 := by kernel_rfl
@[simp] theorem f_z24 : zT Try.prog 24 = some [.int .i64 0, .slice none 0 0, .slice none 0 0] := by kernel_rfl
@[simp] theorem f_ok24 : fldsOk Try.prog 24 = true := by kernel_rfl
@[simp] theorem f_fld24_0 : fldT Try.prog 24 0 = some (0, 1) := by kernel_rfl
@[simp] theorem f_fldA24_0 : fldA Try.prog 24 0 = some false := by kernel_rfl
@[simp] theorem f_pl24_0 : placeT Try.prog 24 0 = some (0, 1) := by kernel_rfl
@[simp] theorem f_fld24_1 : fldT Try.prog 24 1 = some (1, 1) := by kernel_rfl
@[simp] theorem f_fldA24_1 : fldA Try.prog 24 1 = some false := by kernel_rfl
@[simp] theorem f_pl24_1 : placeT Try.prog 24 1 = some (1, 1) := by kernel_rfl
@[simp] theorem f_fld24_2 : fldT Try.prog 24 2 = some (2, 1) := by kernel_rfl
@[simp] theorem f_fldA24_2 : fldA Try.prog 24 2 = some false := by kernel_rfl
@[simp] theorem f_pl24_2 : placeT Try.prog 24 2 = some (2, 1) := by kernel_rfl
@[simp] theorem f_sz25 : szT Try.prog 25 = some 3 := by kernel_rfl
@[simp] theorem f_ag25 : aggT Try.prog 25 = some true := by kernel_rfl
@[simp] theorem f_ib25 : isBoolT Try.prog 25 = false := by kernel_rfl
@[simp] theorem f_is25 : isSlT Try.prog 25 = false := by kernel_rfl
@[simp] theorem f_by25 : byT Try.prog 25 = some 56 := by kernel_rfl
@[simp] theorem f_z25 : zT Try.prog 25 = some [.int .i64 0, .slice none 0 0, .slice none 0 0] := by kernel_rfl
@[simp] theorem f_ok25 : fldsOk Try.prog 25 = true := by kernel_rfl
@[simp] theorem f_fld25_0 : fldT Try.prog 25 0 = some (0, 1) := by kernel_rfl
@[simp] theorem f_fldA25_0 : fldA Try.prog 25 0 = some false := by kernel_rfl
@[simp] theorem f_pl25_0 : placeT Try.prog 25 0 = some (0, 1) := by kernel_rfl
@[simp] theorem f_fld25_1 : fldT Try.prog 25 1 = some (1, 1) := by kernel_rfl
@[simp] theorem f_fldA25_1 : fldA Try.prog 25 1 = some false := by kernel_rfl
@[simp] theorem f_pl25_1 : placeT Try.prog 25 1 = some (1, 1) := by kernel_rfl
@[simp] theorem f_fld25_2 : fldT Try.prog 25 2 = some (2, 1) := by kernel_rfl
@[simp] theorem f_fldA25_2 : fldA Try.prog 25 2 = some false := by kernel_rfl
@[simp] theorem f_pl25_2 : placeT Try.prog 25 2 = some (2, 1) := by kernel_rfl
@[simp] theorem f_sz26 : szT Try.prog 26 = some 1 := by kernel_rfl
@[simp] theorem f_ag26 : aggT Try.prog 26 = some false := by kernel_rfl
@[simp] theorem f_ib26 : isBoolT Try.prog 26 = false := by kernel_rfl
@[simp] theorem f_is26 : isSlT Try.prog 26 = false := by kernel_rfl
@[simp] theorem f_by26 : byT Try.prog 26 = some 8 := by kernel_rfl
@[simp] theorem f_z26 : zT Try.prog 26 = some [.int .i64 0] := by kernel_rfl
@[simp] theorem f_sz28 : szT Try.prog 28 = some 1 := by kernel_rfl
@[simp] theorem f_ag28 : aggT Try.prog 28 = some false := by kernel_rfl
@[simp] theorem f_ib28 : isBoolT Try.prog 28 = false := by kernel_rfl
@[simp] theorem f_is28 : isSlT Try.prog 28 = false := by kernel_rfl
@[simp] theorem f_by28 : byT Try.prog 28 = some 8 := by kernel_rfl
@[simp] theorem f_z28 : zT Try.prog 28 = some [.nilFunc] := by kernel_rfl
@[simp] theorem f_sz29 : szT Try.prog 29 = some 1 := by kernel_rfl
@[simp] theorem f_ag29 : aggT Try.prog 29 = some false := by kernel_rfl
@[simp] theorem f_ib29 : isBoolT Try.prog 29 = false := by kernel_rfl
@[simp] theorem f_is29 : isSlT Try.prog 29 = true := by kernel_rfl
@[simp] theorem f_by29 : byT Try.prog 29 = some 24 := by kernel_rfl
@[simp] theorem f_z29 : zT Try.prog 29 = some [.slice none 0 0] := by kernel_rfl
@[simp] theorem f_sl29 : slT Try.prog 29 = some 2 := by kernel_rfl
@[simp] theorem f_el29 : elT Try.prog 29 = some 48 := by kernel_rfl
@[simp] theorem f_sz30 : szT Try.prog 30 = some 1 := by kernel_rfl
@[simp] theorem f_ag30 : aggT Try.prog 30 = some false := by kernel_rfl
@[simp] theorem f_ib30 : isBoolT Try.prog 30 = false := by kernel_rfl
@[simp] theorem f_is30 : isSlT Try.prog 30 = true := by kernel_rfl
@[simp] theorem f_by30 : byT Try.prog 30 = some 24 := by kernel_rfl
@[simp] theorem f_z30 : zT Try.prog 30 = some [.slice none 0 0] := by kernel_rfl
@[simp] theorem f_sl30 : slT Try.prog 30 = some 2 := by kernel_rfl
@[simp] theorem f_el30 : elT Try.prog 30 = some 39 := by kernel_rfl
@[simp] theorem f_sz31 : szT Try.prog 31 = some 3 := by kernel_rfl
@[simp] theorem f_ag31 : aggT Try.prog 31 = some true := by kernel_rfl
@[simp] theorem f_ib31 : isBoolT Try.prog 31 = false := by kernel_rfl
@[simp] theorem f_is31 : isSlT Try.prog 31 = false := by kernel_rfl
@[simp] theorem f_by31 : byT Try.prog 31 = some 56 := by kernel_rfl
@[simp] theorem f_z31 : zT Try.prog 31 = some [.int .i64 0, .slice none 0 0, .slice none 0 0] := by kernel_rfl
@[simp] theorem f_ok31 : fldsOk Try.prog 31 = true := by kernel_rfl
@[simp] theorem f_fld31_0 : fldT Try.prog 31 0 = some (0, 1) := by kernel_rfl
@[simp] theorem f_fldA31_0 : fldA Try.prog 31 0 = some false := by kernel_rfl
@[simp] theorem f_pl31_0 : placeT Try.prog 31 0 = some (0, 1) := by kernel_rfl
@[simp] theorem f_fld31_1 : fldT Try.prog 31 1 = some (1, 1) := by kernel_rfl
@[simp] theorem f_fldA31_1 : fldA Try.prog 31 1 = some false := by kernel_rfl
@[simp] theorem f_pl31_1 : placeT Try.prog 31 1 = some (1, 1) := by kernel_rfl
@[simp] theorem f_fld31_2 : fldT Try.prog 31 2 = some (2, 1) := by kernel_rfl
@[simp] theorem f_fldA31_2 : fldA Try.prog 31 2 = some false := by kernel_rfl
@[simp] theorem f_pl31_2 : placeT Try.prog 31 2 = some (2, 1) := by kernel_rfl
@[simp] theorem f_sz32 : szT Try.prog 32 = some 3 := by kernel_rfl
@[simp] theorem f_ag32 : aggT Try.prog 32 = some true := by kernel_rfl
@[simp] theorem f_ib32 : isBoolT Try.prog 32 = false := by kernel_rfl
@[simp] theorem f_is32 : isSlT Try.prog 32 = false := by kernel_rfl
@[simp] theorem f_by32 : byT Try.prog 32 = some 56 := by kernel_rfl
@[simp] theorem f_z32 : zT Try.prog 32 = some [.int .i64 0, .slice none 0 0, .slice none 0 0] := by kernel_rfl
@[simp] theorem f_ok32 : fldsOk Try.prog 32 = true := by kernel_rfl
@[simp] theorem f_fld32_0 : fldT Try.prog 32 0 = some (0, 1) := by kernel_rfl
@[simp] theorem f_fldA32_0 : fldA Try.prog 32 0 = some false := by kernel_rfl
@[simp] theorem f_pl32_0 : placeT Try.prog 32 0 = some (0, 1) := by kernel_rfl
@[simp] theorem f_fld32_1 : fldT Try.prog 32 1 = some (1, 1) := by kernel_rfl
@[simp] theorem f_fldA32_1 : fldA Try.prog 32 1 = some false := by kernel_rfl
@[simp] theorem f_pl32_1 : placeT Try.prog 32 1 = some (1, 1) := by kernel_rfl
@[simp] theorem f_fld32_2 : fldT Try.prog 32 2 = some (2, 1) := by kernel_rfl
@[simp] theorem f_fldA32_2 : fldA Try.prog 32 2 = some false := by kernel_rfl
@[simp] theorem f_pl32_2 : placeT Try.prog 32 2 = some (2, 1) := by kernel_rfl
@[simp] theorem f_sz33 : szT Try.prog 33 = some 1 := by kernel_rfl
@[simp] theorem f_ag33 : aggT Try.prog 33 = some false := by kernel_rfl
@[simp] theorem f_ib33 : isBoolT Try.prog 33 = false := by kernel_rfl
@[simp] theorem f_is33 : isSlT Try.prog 33 = false := by kernel_rfl
@[simp] theorem f_by33 : byT Try.prog 33 = some 8 := by kernel_rfl
@[simp] theorem f_z33 : zT Try.prog 33 = some [.nilFunc] := by kernel_rfl
@[simp] theorem f_sz34 : szT Try.prog 34 = some 1 := by kernel_rfl
@[simp] theorem f_ag34 : aggT Try.prog 34 = some false := by kernel_rfl
@[simp] theorem f_ib34 : isBoolT Try.prog 34 = false := by kernel_rfl
@[simp] theorem f_is34 : isSlT Try.prog 34 = false := by kernel_rfl
@[simp] theorem f_by34 : byT Try.prog 34 = some 8 := by kernel_rfl
@[simp] theorem f_z34 : zT Try.prog 34 = some [.nilFunc] := by kernel_rfl
@[simp] theorem f_sz35 : szT Try.prog 35 = some 1 := by kernel_rfl
@[simp] theorem f_ag35 : aggT Try.prog 35 = some false := by kernel_rfl
@[simp] theorem f_ib35 : isBoolT Try.prog 35 = false := by kernel_rfl
@[simp] theorem f_is35 : isSlT Try.prog 35 = false := by kernel_rfl
@[simp] theorem f_by35 : byT Try.prog 35 = some 8 := by kernel_rfl
@[simp] theorem f_z35 : zT Try.prog 35 = some [.nilFunc] := by kernel_rfl
@[simp] theorem f_sz36 : szT Try.prog 36 = some 1 := by kernel_rfl
@[simp] theorem f_ag36 : aggT Try.prog 36 = some false := by kernel_rfl
@[simp] theorem f_ib36 : isBoolT Try.prog 36 = false := by kernel_rfl
@[simp] theorem f_is36 : isSlT Try.prog 36 = false := by kernel_rfl
@[simp] theorem f_by36 : byT Try.prog 36 = some 8 := by kernel_rfl
@[simp] theorem f_z36 : zT Try.prog 36 = some [.nilFunc] := by kernel_rfl
@[simp] theorem f_sz37 : szT Try.prog 37 = some 1 := by kernel_rfl
@[simp] theorem f_ag37 : aggT Try.prog 37 = some false := by kernel_rfl
@[simp] theorem f_ib37 : isBoolT Try.prog 37 = false := by kernel_rfl
@[simp] theorem f_is37 : isSlT Try.prog 37 = true := by kernel_rfl
@[simp] theorem f_by37 : byT Try.prog 37 = some 24 := by kernel_rfl
@[simp] theorem f_z37 : zT Try.prog 37 = some [.slice none 0 0] := by kernel_rfl
@[simp] theorem f_sl37 : slT Try.prog 37 = some 1 := by kernel_rfl
@[simp] theorem f_el37 : elT Try.prog 37 = some 3 := by kernel_rfl
@[simp] theorem f_sz38 : szT Try.prog 38 = some 2 := by kernel_rfl
@[simp] theorem f_ag38 : aggT Try.prog 38 = some true := by kernel_rfl
@[simp] theorem f_ib38 : isBoolT Try.prog 38 = false := by kernel_rfl
@[simp] theorem f_is38 : isSlT Try.prog 38 = false := by kernel_rfl
@[simp] theorem f_by38 : byT Try.prog 38 = some 32 := by kernel_rfl
@[simp] theorem f_z38 : zT Try.prog 38 = some [.int .i64 0, .slice none 0 0] := by kernel_rfl
@[simp] theorem f_ok38 : fldsOk Try.prog 38 = true := by kernel_rfl
@[simp] theorem f_fld38_0 : fldT Try.prog 38 0 = some (0, 1) := by kernel_rfl
@[simp] theorem f_fldA38_0 : fldA Try.prog 38 0 = some false := by kernel_rfl
@[simp] theorem f_pl38_0 : placeT Try.prog 38 0 = some (0, 1) := by kernel_rfl
@[simp] theorem f_fld38_1 : fldT Try.prog 38 1 = some (1, 1) := by kernel_rfl
@[simp] theorem f_fldA38_1 : fldA Try.prog 38 1 = some false := by kernel_rfl
@[simp] theorem f_pl38_1 : placeT Try.prog 38 1 = some (1, 1) := by kernel_rfl
@[simp] theorem f_sz39 : szT Try.prog 39 = some 2 := by kernel_rfl
@[simp] theorem f_ag39 : aggT Try.prog 39 = some true := by kernel_rfl
@[simp] theorem f_ib39 : isBoolT Try.prog 39 = false := by kernel_rfl
@[simp] theorem f_is39 : isSlT Try.prog 39 = false := by kernel_rfl
@[simp] theorem f_by39 : byT Try.prog 39 = some 32 := by kernel_rfl
@[simp] theorem f_z39 : zT Try.prog 39 = some [.int .i64 0, .slice none 0 0] := by kernel_rfl
@[simp] theorem f_ok39 : fldsOk Try.prog 39 = true := by kernel_rfl
@[simp] theorem f_fld39_0 : fldT Try.prog 39 0 = some (0, 1) := by kernel_rfl
@[simp] theorem f_fldA39_0 : fldA Try.prog 39 0 = some false := by kernel_rfl
@[simp] theorem f_pl39_0 : placeT Try.prog 39 0 = some (0, 1) := by kernel_rfl
@[simp] theorem f_fld39_1 : fldT Try.prog 39 1 = some (1, 1) := by kernel_rfl
@[simp] theorem f_fldA39_1 : fldA Try.prog 39 1 = some false := by kernel_rfl
@[simp] theorem f_pl39_1 : placeT Try.prog 39 1 = some (1, 1) := by kernel_rfl
@[simp] theorem f_sz41 : szT Try.prog 41 = some 1 := by kernel_rfl
@[simp] theorem f_ag41 : aggT Try.prog 41 = some false := by kernel_rfl
@[simp] theorem f_ib41 : isBoolT Try.prog 41 = false := by kernel_rfl
@[simp] theorem f_is41 : isSlT Try.prog 41 = false := by kernel_rfl
@[simp] theorem f_by41 : byT Try.prog 41 = some 8 := by kernel_rfl
@[simp] theorem f_z41 : zT Try.prog 41 = some [.nilFunc] := by kernel_rfl
@[simp] theorem f_sz42 : szT Try.prog 42 = some 1 := by kernel_rfl
@[simp] theorem f_ag42 : aggT Try.prog 42 = some false := by kernel_rfl
@[simp] theorem f_ib42 : isBoolT Try.prog 42 = false := by kernel_rfl
@[simp] theorem f_is42 : isSlT Try.prog 42 = false := by kernel_rfl
@[simp] theorem f_by42 : byT Try.prog 42 = some 8 := by kernel_rfl
@[simp] theorem f_z42 : zT Try.prog 42 = some [.nilFunc] := by kernel_rfl
@[simp] theorem f_sz43 : szT Try.prog 43 = some 1 := by kernel_rfl
@[simp] theorem f_ag43 : aggT Try.prog 43 = some false := by kernel_rfl
@[simp] theorem f_ib43 : isBoolT Try.prog 43 = false := by kernel_rfl
@[simp] theorem f_is43 : isSlT Try.prog 43 = false := by kernel_rfl
@[simp] theorem f_by43 : byT Try.prog 43 = some 8 := by kernel_rfl
@[simp] theorem f_z43 : zT Try.prog 43 = some [.nilFunc] := by kernel_rfl
@[simp] theorem f_sz44 : szT Try.prog 44 = some 1 := by kernel_rfl
@[simp] theorem f_ag44 : aggT Try.prog 44 = some false := by kernel_rfl
@[simp] theorem f_ib44 : isBoolT Try.prog 44 = false := by kernel_rfl
@[simp] theorem f_is44 : isSlT Try.prog 44 = false := by kernel_rfl
@[simp] theorem f_by44 : byT Try.prog 44 = some 8 := by kernel_rfl
@[simp] theorem f_z44 : zT Try.prog 44 = some [.nilFunc] := by kernel_rfl
@[simp] theorem f_sz45 : szT Try.prog 45 = some 2 := by kernel_rfl
@[simp] theorem f_ag45 : aggT Try.prog 45 = some true := by kernel_rfl
@[simp] theorem f_ib45 : isBoolT Try.prog 45 = false := by kernel_rfl
@[simp] theorem f_is45 : isSlT Try.prog 45 = false := by kernel_rfl
@[simp] theorem f_by45 : byT Try.prog 45 = some 32 := by kernel_rfl
@[simp] theorem f_z45 : zT Try.prog 45 = some [.int .i64 0, .slice none 0 0] := by kernel_rfl
@[simp] theorem f_ok45 : fldsOk Try.prog 45 = true := by kernel_rfl
@[simp] theorem f_fld45_0 : fldT Try.prog 45 0 = some (0, 1) := by kernel_rfl
@[simp] theorem f_fldA45_0 : fldA Try.prog 45 0 = some false := by kernel_rfl
@[simp] theorem f_pl45_0 : placeT Try.prog 45 0 = some (0, 1) := by kernel_rfl
@[simp] theorem f_fld45_1 : fldT Try.prog 45 1 = some (1, 1) := by kernel_rfl
@[simp] theorem f_fldA45_1 : fldA Try.prog 45 1 = some false := by kernel_rfl
@[simp] theorem f_pl45_1 : placeT Try.prog 45 1 = some (1, 1) := by kernel_rfl
@[simp] theorem f_sz46 : szT Try.prog 46 = some 2 := by kernel_rfl
@[simp] theorem f_ag46 : aggT Try.prog 46 = some true := by kernel_rfl
@[simp] theorem f_ib46 : isBoolT Try.prog 46 = false := by kernel_rfl
@[simp] theorem f_is46 : isSlT Try.prog 46 = false := by kernel_rfl
@[simp] theorem f_by46 : byT Try.prog 46 = some 32 := by kernel_rfl
@[simp] theorem f_z46 : zT Try.prog 46 = some [.int .i64 0, .slice none 0 0] := by kernel_rfl
@[simp] theorem f_ok46 : fldsOk Try.prog 46 = true := by kernel_rfl
@[simp] theorem f_fld46_0 : fldT Try.prog 46 0 = some (0, 1) := by kernel_rfl
@[simp] theorem f_fldA46_0 : fldA Try.prog 46 0 = some false := by kernel_rfl
@[simp] theorem f_pl46_0 : placeT Try.prog 46 0 = some (0, 1) := by kernel_rfl
@[simp] theorem f_fld46_1 : fldT Try.prog 46 1 = some (1, 1) := by kernel_rfl
@[simp] theorem f_fldA46_1 : fldA Try.prog 46 1 = some false := by kernel_rfl
@[simp] theorem f_pl46_1 : placeT Try.prog 46 1 = some (1, 1) := by kernel_rfl
@[simp] theorem f_sz47 : szT Try.prog 47 = some 1 := by kernel_rfl
@[simp] theorem f_ag47 : aggT Try.prog 47 = some false := by kernel_rfl
@[simp] theorem f_ib47 : isBoolT Try.prog 47 = false := by kernel_rfl
@[simp] theorem f_is47 : isSlT Try.prog 47 = false := by kernel_rfl
@[simp] theorem f_by47 : byT Try.prog 47 = some 8 := by kernel_rfl
@[simp] theorem f_z47 : zT Try.prog 47 = some [.nilFunc] := by kernel_rfl
@[simp] theorem f_sz48 : szT Try.prog 48 = some 2 := by kernel_rfl
@[simp] theorem f_ag48 : aggT Try.prog 48 = some true := by kernel_rfl
@[simp] theorem f_ib48 : isBoolT Try.prog 48 = false := by kernel_rfl
@[simp] theorem f_is48 : isSlT Try.prog 48 = false := by kernel_rfl
@[simp] theorem f_by48 : byT Try.prog 48 = some 32 := by kernel_rfl
@[simp] theorem f_z48 : zT Try.prog 48 = some [.int .i64 0, .slice none 0 0] := by kernel_rfl
@[simp] theorem f_ok48 : fldsOk Try.prog 48 = true := by kernel_rfl
@[simp] theorem f_fld48_0 : fldT Try.prog 48 0 = some (0, 1) := by kernel_rfl
@[simp] theorem f_fldA48_0 : fldA Try.prog 48 0 = some false := by kernel_rfl
@[simp] theorem f_pl48_0 : placeT Try.prog 48 0 = some (0, 1) := by kernel_rfl
@[simp] theorem f_fld48_1 : fldT Try.prog 48 1 = some (1, 1) := by kernel_rfl
@[simp] theorem f_fldA48_1 : fldA Try.prog 48 1 = some false := by kernel_rfl
@[simp] theorem f_pl48_1 : placeT Try.prog 48 1 = some (1, 1) := by kernel_rfl
@[simp] theorem f_sz49 : szT Try.prog 49 = some 1 := by kernel_rfl
@[simp] theorem f_ag49 : aggT Try.prog 49 = some false := by kernel_rfl
@[simp] theorem f_ib49 : isBoolT Try.prog 49 = false := by kernel_rfl
@[simp] theorem f_is49 : isSlT Try.prog 49 = false := by kernel_rfl
@[simp] theorem f_by49 : byT Try.prog 49 = some 8 := by kernel_rfl
@[simp] theorem f_z49 : zT Try.prog 49 = some [.nilFunc] := by kernel_rfl
@[simp] theorem f_sz51 : szT Try.prog 51 = some 1 := by kernel_rfl
@[simp] theorem f_ag51 : aggT Try.prog 51 = some false := by kernel_rfl
@[simp] theorem f_ib51 : isBoolT Try.prog 51 = false := by kernel_rfl
@[simp] theorem f_is51 : isSlT Try.prog 51 = false := by kernel_rfl
@[simp] theorem f_by51 : byT Try.prog 51 = some 8 := by kernel_rfl
@[simp] theorem f_z51 : zT Try.prog 51 = some [.nilFunc] := by kernel_rfl
@[simp] theorem f_sz52 : szT Try.prog 52 = some 1 := by kernel_rfl
@[simp] theorem f_ag52 : aggT Try.prog 52 = some false := by kernel_rfl
@[simp] theorem f_ib52 : isBoolT Try.prog 52 = false := by kernel_rfl
@[simp] theorem f_is52 : isSlT Try.prog 52 = false := by kernel_rfl
@[simp] theorem f_by52 : byT Try.prog 52 = some 8 := by kernel_rfl
@[simp] theorem f_z52 : zT Try.prog 52 = some [.nilFunc] := by kernel_rfl
@[simp] theorem f_sz53 : szT Try.prog 53 = some 1 := by kernel_rfl
@[simp] theorem f_ag53 : aggT Try.prog 53 = some false := by kernel_rfl
@[simp] theorem f_ib53 : isBoolT Try.prog 53 = false := by kernel_rfl
@[simp] theorem f_is53 : isSlT Try.prog 53 = false := by kernel_rfl
@[simp] theorem f_by53 : byT Try.prog 53 = some 8 := by kernel_rfl
@[simp] theorem f_z53 : zT Try.prog 53 = some [.nilFunc] := by kernel_rfl
@[simp] theorem f_sz54 : szT Try.prog 54 = some 1 := by kernel_rfl
@[simp] theorem f_ag54 : aggT Try.prog 54 = some false := by kernel_rfl
@[simp] theorem f_ib54 : isBoolT Try.prog 54 = false := by kernel_rfl
@[simp] theorem f_is54 : isSlT Try.prog 54 = false := by kernel_rfl
@[simp] theorem f_by54 : byT Try.prog 54 = some 8 := by kernel_rfl
@[simp] theorem f_z54 : zT Try.prog 54 = some [.nilFunc] := by kernel_rfl
@[simp] theorem f_sz55 : szT Try.prog 55 = some 1 := by kernel_rfl
@[simp] theorem f_ag55 : aggT Try.prog 55 = some false := by kernel_rfl
@[simp] theorem f_ib55 : isBoolT Try.prog 55 = false := by kernel_rfl
@[simp] theorem f_is55 : isSlT Try.prog 55 = false := by kernel_rfl
@[simp] theorem f_by55 : byT Try.prog 55 = some 8 := by kernel_rfl
@[simp] theorem f_z55 : zT Try.prog 55 = some [.nilFunc] := by kernel_rfl
@[simp] theorem f_sz56 : szT Try.prog 56 = some 1 := by kernel_rfl
@[simp] theorem f_ag56 : aggT Try.prog 56 = some false := by kernel_rfl
@[simp] theorem f_ib56 : isBoolT Try.prog 56 = false := by kernel_rfl
@[simp] theorem f_is56 : isSlT Try.prog 56 = true := by kernel_rfl
@[simp] theorem f_by56 : byT Try.prog 56 = some 24 := by kernel_rfl
@[simp] theorem f_z56 : zT Try.prog 56 = some [.slice none 0 0] := by kernel_rfl
@[simp] theorem f_sl56 : slT Try.prog 56 = some 1 := by kernel_rfl
@[simp] theorem f_el56 : elT Try.prog 56 = some 37 := by kernel_rfl
@[simp] theorem f_sz58 : szT Try.prog 58 = some 1 := by kernel_rfl
@[simp] theorem f_ag58 : aggT Try.prog 58 = some false := by kernel_rfl
@[simp] theorem f_ib58 : isBoolT Try.prog 58 = false := by kernel_rfl
@[simp] theorem f_is58 : isSlT Try.prog 58 = false := by kernel_rfl
@[simp] theorem f_by58 : byT Try.prog 58 = some 8 := by kernel_rfl
@[simp] theorem f_z58 : zT Try.prog 58 = some [.nilFunc] := by kernel_rfl
@[simp] theorem f_sz59 : szT Try.prog 59 = some 1 := by kernel_rfl
@[simp] theorem f_ag59 : aggT Try.prog 59 = some false := by kernel_rfl
@[simp] theorem f_ib59 : isBoolT Try.prog 59 = false := by kernel_rfl
@[simp] theorem f_is59 : isSlT Try.prog 59 = false := by kernel_rfl
@[simp] theorem f_by59 : byT Try.prog 59 = some 8 := by kernel_rfl
@[simp] theorem f_z59 : zT Try.prog 59 = some [.nilFunc] := by kernel_rfl
@[simp] theorem f_sz60 : szT Try.prog 60 = some 1 := by kernel_rfl
@[simp] theorem f_ag60 : aggT Try.prog 60 = some false := by kernel_rfl
@[simp] theorem f_ib60 : isBoolT Try.prog 60 = false := by kernel_rfl
@[simp] theorem f_is60 : isSlT Try.prog 60 = false := by kernel_rfl
@[simp] theorem f_by60 : byT Try.prog 60 = some 8 := by kernel_rfl
@[simp] theorem f_z60 : zT Try.prog 60 = some [.nilFunc] := by kernel_rfl
@[simp] theorem f_sz61 : szT Try.prog 61 = some 1 := by kernel_rfl
@[simp] theorem f_ag61 : aggT Try.prog 61 = some false := by kernel_rfl
@[simp] theorem f_ib61 : isBoolT Try.prog 61 = false := by kernel_rfl
@[simp] theorem f_is61 : isSlT Try.prog 61 = false := by kernel_rfl
@[simp] theorem f_by61 : byT Try.prog 61 = some 8 := by kernel_rfl
@[simp] theorem f_z61 : zT Try.prog 61 = some [.nilFunc] := by kernel_rfl
@[simp] theorem f_sz62 : szT Try.prog 62 = some 1 := by kernel_rfl
@[simp] theorem f_ag62 : aggT Try.prog 62 = some false := by kernel_rfl
@[simp] theorem f_ib62 : isBoolT Try.prog 62 = false := by kernel_rfl
@[simp] theorem f_is62 : isSlT Try.prog 62 = false := by kernel_rfl
@[simp] theorem f_by62 : byT Try.prog 62 = some 8 := by kernel_rfl
@[simp] theorem f_z62 : zT Try.prog 62 = some [.nilFunc] := by kernel_rfl
@[simp] theorem f_sz63 : szT Try.prog 63 = some 1 := by kernel_rfl
@[simp] theorem f_ag63 : aggT Try.prog 63 = some false := by kernel_rfl
@[simp] theorem f_ib63 : isBoolT Try.prog 63 = false := by kernel_rfl
@[simp] theorem f_is63 : isSlT Try.prog 63 = false := by kernel_rfl
@[simp] theorem f_by63 : byT Try.prog 63 = some 8 := by kernel_rfl
@[simp] theorem f_z63 : zT Try.prog 63 = some [.int .u64 0] := by kernel_rfl
@[simp] theorem f_sz64 : szT Try.prog 64 = some 1 := by kernel_rfl
@[simp] theorem f_ag64 : aggT Try.prog 64 = some false := by kernel_rfl
@[simp] theorem f_ib64 : isBoolT Try.prog 64 = false := by kernel_rfl
@[simp] theorem f_is64 : isSlT Try.prog 64 = false := by kernel_rfl
@[simp] theorem f_by64 : byT Try.prog 64 = some 8 := by kernel_rfl
@[simp] theorem f_z64 : zT Try.prog 64 = some [.nilFunc] := by kernel_rfl
@[simp] theorem f_sz66 : szT Try.prog 66 = some 1 := by kernel_rfl
@[simp] theorem f_ag66 : aggT Try.prog 66 = some false := by kernel_rfl
@[simp] theorem f_ib66 : isBoolT Try.prog 66 = false := by kernel_rfl
@[simp] theorem f_is66 : isSlT Try.prog 66 = false := by kernel_rfl
@[simp] theorem f_by66 : byT Try.prog 66 = some 8 := by kernel_rfl
@[simp] theorem f_z66 : zT Try.prog 66 = some [.nilFunc] := by kernel_rfl
@[simp] theorem f_sz67 : szT Try.prog 67 = some 1 := by kernel_rfl
@[simp] theorem f_ag67 : aggT Try.prog 67 = some false := by kernel_rfl
@[simp] theorem f_ib67 : isBoolT Try.prog 67 = false := by kernel_rfl
@[simp] theorem f_is67 : isSlT Try.prog 67 = false := by kernel_rfl
@[simp] theorem f_by67 : byT Try.prog 67 = some 8 := by kernel_rfl
@[simp] theorem f_z67 : zT Try.prog 67 = some [.nilFunc] := by kernel_rfl
@[simp] theorem f_sz68 : szT Try.prog 68 = some 1 := by kernel_rfl
@[simp] theorem f_ag68 : aggT Try.prog 68 = some false := by kernel_rfl
@[simp] theorem f_ib68 : isBoolT Try.prog 68 = false := by kernel_rfl
@[simp] theorem f_is68 : isSlT Try.prog 68 = false := by kernel_rfl
@[simp] theorem f_by68 : byT Try.prog 68 = some 8 := by kernel_rfl
@[simp] theorem f_z68 : zT Try.prog 68 = some [.nilFunc] := by kernel_rfl
@[simp] theorem f_sz70 : szT Try.prog 70 = some 1 := by kernel_rfl
@[simp] theorem f_ag70 : aggT Try.prog 70 = some false := by kernel_rfl
@[simp] theorem f_ib70 : isBoolT Try.prog 70 = false := by kernel_rfl
@[simp] theorem f_is70 : isSlT Try.prog 70 = false := by kernel_rfl
@[simp] theorem f_by70 : byT Try.prog 70 = some 8 := by kernel_rfl
@[simp] theorem f_z70 : zT Try.prog 70 = some [.nilFunc] := by kernel_rfl
@[simp] theorem f_sz71 : szT Try.prog 71 = some 1 := by kernel_rfl
@[simp] theorem f_ag71 : aggT Try.prog 71 = some false := by kernel_rfl
@[simp] theorem f_ib71 : isBoolT Try.prog 71 = false := by kernel_rfl
@[simp] theorem f_is71 : isSlT Try.prog 71 = false := by kernel_rfl
@[simp] theorem f_by71 : byT Try.prog 71 = some 8 := by kernel_rfl
@[simp] theorem f_z71 : zT Try.prog 71 = some [.nilFunc] := by kernel_rfl
@[simp] theorem f_sz72 : szT Try.prog 72 = some 1 := by kernel_rfl
@[simp] theorem f_ag72 : aggT Try.prog 72 = some false := by kernel_rfl
@[simp] theorem f_ib72 : isBoolT Try.prog 72 = false := by kernel_rfl
@[simp] theorem f_is72 : isSlT Try.prog 72 = false := by kernel_rfl
@[simp] theorem f_by72 : byT Try.prog 72 = some 8 := by kernel_rfl
@[simp] theorem f_z72 : zT Try.prog 72 = some [.nilFunc] := by kernel_rfl
@[simp] theorem f_sz73 : szT Try.prog 73 = some 1 := by kernel_rfl
@[simp] theorem f_ag73 : aggT Try.prog 73 = some false := by kernel_rfl
@[simp] theorem f_ib73 : isBoolT Try.prog 73 = false := by kernel_rfl
@[simp] theorem f_is73 : isSlT Try.prog 73 = false := by kernel_rfl
@[simp] theorem f_by73 : byT Try.prog 73 = some 8 := by kernel_rfl
@[simp] theorem f_z73 : zT Try.prog 73 = some [.nilFunc] := by kernel_rfl
@[simp] theorem f_sz74 : szT Try.prog 74 = some 1 := by kernel_rfl
@[simp] theorem f_ag74 : aggT Try.prog 74 = some false := by kernel_rfl
@[simp] theorem f_ib74 : isBoolT Try.prog 74 = false := by kernel_rfl
@[simp] theorem f_is74 : isSlT Try.prog 74 = false := by kernel_rfl
@[simp] theorem f_by74 : byT Try.prog 74 = some 8 := by kernel_rfl
@[simp] theorem f_z74 : zT Try.prog 74 = some [.nilFunc] := by kernel_rfl
@[simp] theorem f_sz75 : szT Try.prog 75 = some 6 := by kernel_rfl
@[simp] theorem f_ag75 : aggT Try.prog 75 = some true := by kernel_rfl
@[simp] theorem f_ib75 : isBoolT Try.prog 75 = false := by kernel_rfl
@[simp] theorem f_is75 : isSlT Try.prog 75 = false := by kernel_rfl
@[simp] theorem f_by75 : byT Try.prog 75 = some 48 := by kernel_rfl
@[simp] theorem f_z75 : zT Try.prog 75 = some [.int .i64 0, .int .i64 0, .int .i64 0, .int .i64 0, .int .i64 0, .int .i64 0] := by kernel_rfl
@[simp] theorem f_ar75 : arT Try.prog 75 = some (6, 1) := by kernel_rfl
@[simp] theorem f_arA75 : arA Try.prog 75 = some false := by kernel_rfl
@[simp] theorem f_ok75 : fldsOk Try.prog 75 = true := by kernel_rfl
@[simp] theorem f_pl75_0 : placeT Try.prog 75 0 = some (0, 1) := by kernel_rfl
@[simp] theorem f_pl75_1 : placeT Try.prog 75 1 = some (1, 1) := by kernel_rfl
@[simp] theorem f_pl75_2 : placeT Try.prog 75 2 = some (2, 1) := by kernel_rfl
@[simp] theorem f_pl75_3 : placeT Try.prog 75 3 = some (3, 1) := by kernel_rfl
@[simp] theorem f_pl75_4 : placeT Try.prog 75 4 = some (4, 1) := by kernel_rfl
@[simp] theorem f_pl75_5 : placeT Try.prog 75 5 = some (5, 1) := by kernel_rfl
@[simp] theorem f_sz76 : szT Try.prog 76 = some 1 := by kernel_rfl
@[simp] theorem f_ag76 : aggT Try.prog 76 = some false := by kernel_rfl
@[simp] theorem f_ib76 : isBoolT Try.prog 76 = false := by kernel_rfl
@[simp] theorem f_is76 : isSlT Try.prog 76 = false := by kernel_rfl
@[simp] theorem f_by76 : byT Try.prog 76 = some 8 := by kernel_rfl
@[simp] theorem f_z76 : zT Try.prog 76 = some [.nilFunc] := by kernel_rfl
@[simp] theorem f_sz77 : szT Try.prog 77 = some 1 := by kernel_rfl
@[simp] theorem f_ag77 : aggT Try.prog 77 = some false := by kernel_rfl
@[simp] theorem f_ib77 : isBoolT Try.prog 77 = false := by kernel_rfl
@[simp] theorem f_is77 : isSlT Try.prog 77 = true := by kernel_rfl
@[simp] theorem f_by77 : byT Try.prog 77 = some 24 := by kernel_rfl
@[simp] theorem f_z77 : zT Try.prog 77 = some [.slice none 0 0] := by kernel_rfl
@[simp] theorem f_sl77 : slT Try.prog 77 = some 2 := by kernel_rfl
@[simp] theorem f_el77 : elT Try.prog 77 = some 126 := by kernel_rfl
@[simp] theorem f_sz78 : szT Try.prog 78 = some 1 := by kernel_rfl
@[simp] theorem f_ag78 : aggT Try.prog 78 = some false := by kernel_rfl
@[simp] theorem f_ib78 : isBoolT Try.prog 78 = false := by kernel_rfl
@[simp] theorem f_is78 : isSlT Try.prog 78 = true := by kernel_rfl
@[simp] theorem f_by78 : byT Try.prog 78 = some 24 := by kernel_rfl
@[simp] theorem f_z78 : zT Try.prog 78 = some [.slice none 0 0] := by kernel_rfl
@[simp] theorem f_sl78 : slT Try.prog 78 = some 2 := by kernel_rfl
@[simp] theorem f_el78 : elT Try.prog 78 = some 123 := by kernel_rfl
@[simp] theorem f_sz80 : szT Try.prog 80 = some 1 := by kernel_rfl
@[simp] theorem f_ag80 : aggT Try.prog 80 = some false := by kernel_rfl
@[simp] theorem f_ib80 : isBoolT Try.prog 80 = false := by kernel_rfl
@[simp] theorem f_is80 : isSlT Try.prog 80 = false := by kernel_rfl
@[simp] theorem f_by80 : byT Try.prog 80 = some 8 := by kernel_rfl
@[simp] theorem f_z80 : zT Try.prog 80 = some [.nilFunc] := by kernel_rfl
@[simp] theorem f_sz81 : szT Try.prog 81 = some 1 := by kernel_rfl
@[simp] theorem f_ag81 : aggT Try.prog 81 = some false := by kernel_rfl
@[simp] theorem f_ib81 : isBoolT Try.prog 81 = false := by kernel_rfl
@[simp] theorem f_is81 : isSlT Try.prog 81 = false := by kernel_rfl
@[simp] theorem f_by81 : byT Try.prog 81 = some 8 := by kernel_rfl
@[simp] theorem f_z81 : zT Try.prog 81 = some [.nilFunc] := by kernel_rfl
@[simp] theorem f_sz82 : szT Try.prog 82 = some 1 := by kernel_rfl
@[simp] theorem f_ag82 : aggT Try.prog 82 = some false := by kernel_rfl
@[simp] theorem f_ib82 : isBoolT Try.prog 82 = false := by kernel_rfl
@[simp] theorem f_is82 : isSlT Try.prog 82 = false := by kernel_rfl
@[simp] theorem f_by82 : byT Try.prog 82 = some 8 := by kernel_rfl
@[simp] theorem f_z82 : zT Try.prog 82 = some [.nilFunc] := by kernel_rfl
@[simp] theorem f_sz83 : szT Try.prog 83 = some 1 := by kernel_rfl
@[simp] theorem f_ag83 : aggT Try.prog 83 = some false := by kernel_rfl
@[simp] theorem f_ib83 : isBoolT Try.prog 83 = false := by kernel_rfl
@[simp] theorem f_is83 : isSlT Try.prog 83 = false := by kernel_rfl
@[simp] theorem f_by83 : byT Try.prog 83 = some 8 := by kernel_rfl
@[simp] theorem f_z83 : zT Try.prog 83 = some [.nilFunc] := by kernel_rfl
@[simp] theorem f_sz84 : szT Try.prog 84 = some 1 := by kernel_rfl
@[simp] theorem f_ag84 : aggT Try.prog 84 = some false := by kernel_rfl
@[simp] theorem f_ib84 : isBoolT Try.prog 84 = false := by kernel_rfl
@[simp] theorem f_is84 : isSlT Try.prog 84 = false := by kernel_rfl
@[simp] theorem f_by84 : byT Try.prog 84 = some 8 := by kernel_rfl
@[simp] theorem f_z84 : zT Try.prog 84 = some [.nilFunc] := by kernel_rfl
@[simp] theorem f_sz85 : szT Try.prog 85 = some 1 := by kernel_rfl
@[simp] theorem f_ag85 : aggT Try.prog 85 = some false := by kernel_rfl
@[simp] theorem f_ib85 : isBoolT Try.prog 85 = false := by kernel_rfl
@[simp] theorem f_is85 : isSlT Try.prog 85 = false := by kernel_rfl
@[simp] theorem f_by85 : byT Try.prog 85 = some 8 := by kernel_rfl
@[simp] theorem f_z85 : zT Try.prog 85 = some [.nilFunc] := by kernel_rfl
@[simp] theorem f_sz86 : szT Try.prog 86 = some 1 := by kernel_rfl
@[simp] theorem f_ag86 : aggT Try.prog 86 = some false := by kernel_rfl
@[simp] theorem f_ib86 : isBoolT Try.prog 86 = false := by kernel_rfl
@[simp] theorem f_is86 : isSlT Try.prog 86 = false := by kernel_rfl
@[simp] theorem f_by86 : byT Try.prog 86 = some 8 := by kernel_rfl
@[simp] theorem f_z86 : zT Try.prog 86 = some [.nilFunc] := by kernel_rfl
@[simp] theorem f_sz87 : szT Try.prog 87 = some 2 := by kernel_rfl
@[simp] theorem f_ag87 : aggT Try.prog 87 = some true := by kernel_rfl
@[simp] theorem f_ib87 : isBoolT Try.prog 87 = false := by kernel_rfl
@[simp] theorem f_is87 : isSlT Try.prog 87 = false := by kernel_rfl
@[simp] theorem f_by87 : byT Try.prog 87 = some 32 := by kernel_rfl
@[simp] theorem f_z87 : zT Try.prog 87 = some [.int .i64 0, .slice none 0 0] := by kernel_rfl
@[simp] theorem f_ok87 : fldsOk Try.prog 87 = true := by kernel_rfl
@[simp] theorem f_fld87_0 : fldT Try.prog 87 0 = some (0, 1) := by kernel_rfl
@[simp] theorem f_fldA87_0 : fldA Try.prog 87 0 = some false := by kernel_rfl
@[simp] theorem f_pl87_0 : placeT Try.prog 87 0 = some (0, 1) := by kernel_rfl
@[simp] theorem f_fld87_1 : fldT Try.prog 87 1 = some (1, 1) := by kernel_rfl
@[simp] theorem f_fldA87_1 : fldA Try.prog 87 1 = some false := by kernel_rfl
@[simp] theorem f_pl87_1 : placeT Try.prog 87 1 = some (1, 1) := by kernel_rfl
@[simp] theorem f_sz88 : szT Try.prog 88 = some 1 := by kernel_rfl
@[simp] theorem f_ag88 : aggT Try.prog 88 = some false := by kernel_rfl
@[simp] theorem f_ib88 : isBoolT Try.prog 88 = false := by kernel_rfl
@[simp] theorem f_is88 : isSlT Try.prog 88 = false := by kernel_rfl
@[simp] theorem f_by88 : byT Try.prog 88 = some 8 := by kernel_rfl
@[simp] theorem f_z88 : zT Try.prog 88 = some [.nilFunc] := by kernel_rfl
@[simp] theorem f_sz89 : szT Try.prog 89 = some 1 := by kernel_rfl
@[simp] theorem f_ag89 : aggT Try.prog 89 = some false := by kernel_rfl
@[simp] theorem f_ib89 : isBoolT Try.prog 89 = false := by kernel_rfl
@[simp] theorem f_is89 : isSlT Try.prog 89 = false := by kernel_rfl
@[simp] theorem f_by89 : byT Try.prog 89 = some 8 := by kernel_rfl
@[simp] theorem f_z89 : zT Try.prog 89 = some [.nilFunc] := by kernel_rfl
@[simp] theorem f_sz90 : szT Try.prog 90 = some 1 := by kernel_rfl
@[simp] theorem f_ag90 : aggT Try.prog 90 = some false := by kernel_rfl
@[simp] theorem f_ib90 : isBoolT Try.prog 90 = false := by kernel_rfl
@[simp] theorem f_is90 : isSlT Try.prog 90 = false := by kernel_rfl
@[simp] theorem f_by90 : byT Try.prog 90 = some 8 := by kernel_rfl
@[simp] theorem f_z90 : zT Try.prog 90 = some [.nilFunc] := by kernel_rfl
@[simp] theorem f_sz92 : szT Try.prog 92 = some 1 := by kernel_rfl
@[simp] theorem f_ag92 : aggT Try.prog 92 = some false := by kernel_rfl
@[simp] theorem f_ib92 : isBoolT Try.prog 92 = false := by kernel_rfl
@[simp] theorem f_is92 : isSlT Try.prog 92 = false := by kernel_rfl
@[simp] theorem f_by92 : byT Try.prog 92 = some 8 := by kernel_rfl
@[simp] theorem f_z92 : zT Try.prog 92 = some [.nilFunc] := by kernel_rfl
@[simp] theorem f_sz93 : szT Try.prog 93 = some 1 := by kernel_rfl
@[simp] theorem f_ag93 : aggT Try.prog 93 = some false := by kernel_rfl
@[simp] theorem f_ib93 : isBoolT Try.prog 93 = false := by kernel_rfl
@[simp] theorem f_is93 : isSlT Try.prog 93 = false := by kernel_rfl
@[simp] theorem f_by93 : byT Try.prog 93 = some 8 := by kernel_rfl
@[simp] theorem f_z93 : zT Try.prog 93 = some [.nilFunc] := by kernel_rfl
@[simp] theorem f_sz94 : szT Try.prog 94 = some 1 := by kernel_rfl
@[simp] theorem f_ag94 : aggT Try.prog 94 = some false := by kernel_rfl
@[simp] theorem f_ib94 : isBoolT Try.prog 94 = false := by kernel_rfl
@[simp] theorem f_is94 : isSlT Try.prog 94 = false := by kernel_rfl
@[simp] theorem f_by94 : byT Try.prog 94 = some 8 := by kernel_rfl
@[simp] theorem f_z94 : zT Try.prog 94 = some [.nilFunc] := by kernel_rfl
@[simp] theorem f_sz95 : szT Try.prog 95 = some 1 := by kernel_rfl
@[simp] theorem f_ag95 : aggT Try.prog 95 = some false := by kernel_rfl
@[simp] theorem f_ib95 : isBoolT Try.prog 95 = false := by kernel_rfl
@[simp] theorem f_is95 : isSlT Try.prog 95 = false := by kernel_rfl
@[simp] theorem f_by95 : byT Try.prog 95 = some 8 := by kernel_rfl
@[simp] theorem f_z95 : zT Try.prog 95 = some [.nilFunc] := by kernel_rfl
@[simp] theorem f_sz96 : szT Try.prog 96 = some 8 := by kernel_rfl
@[simp] theorem f_ag96 : aggT Try.prog 96 = some true := by kernel_rfl
@[simp] theorem f_ib96 : isBoolT Try.prog 96 = false := by kernel_rfl
@[simp] theorem f_is96 : isSlT Try.prog 96 = false := by kernel_rfl
@[simp] theorem f_by96 : byT Try.prog 96 = some 64 := by kernel_rfl
@[simp] theorem f_z96 : zT Try.prog 96 = some [.int .i64 0, .int .i64 0, .int .i64 0, .int .i64 0, .int .i64 0, .int .i64 0, .int .i64 0, .int .i64 0] := by kernel_rfl
@[simp] theorem f_ar96 : arT Try.prog 96 = some (8, 1) := by kernel_rfl
@[simp] theorem f_arA96 : arA Try.prog 96 = some false := by kernel_rfl
@[simp] theorem f_ok96 : fldsOk Try.prog 96 = true := by kernel_rfl
@[simp] theorem f_pl96_0 : placeT Try.prog 96 0 = some (0, 1) := by kernel_rfl
@[simp] theorem f_pl96_1 : placeT Try.prog 96 1 = some (1, 1) := by kernel_rfl
@[simp] theorem f_pl96_2 : placeT Try.prog 96 2 = some (2, 1) := by kernel_rfl
@[simp] theorem f_pl96_3 : placeT Try.prog 96 3 = some (3, 1) := by kernel_rfl
@[simp] theorem f_pl96_4 : placeT Try.prog 96 4 = some (4, 1) := by kernel_rfl
@[simp] theorem f_pl96_5 : placeT Try.prog 96 5 = some (5, 1) := by kernel_rfl
@[simp] theorem f_pl96_6 : placeT Try.prog 96 6 = some (6, 1) := by kernel_rfl
@[simp] theorem f_pl96_7 : placeT Try.prog 96 7 = some (7, 1) := by kernel_rfl
@[simp] theorem f_sz97 : szT Try.prog 97 = some 64 := by kernel_rfl
@[simp] theorem f_ag97 : aggT Try.prog 97 = some true := by kernel_rfl
@[simp] theorem f_ib97 : isBoolT Try.prog 97 = false := by kernel_rfl
@[simp] theorem f_is97 : isSlT Try.prog 97 = false := by kernel_rfl
@[simp] theorem f_z97 : zT Try.prog 97 = some (List.replicate 64 (.int .i64 0)) := by kernel_rfl
@[simp] theorem f_ar97 : arT Try.prog 97 = some (8, 8) := by kernel_rfl
@[simp] theorem f_arA97 : arA Try.prog 97 = some true := by kernel_rfl
@[simp] theorem f_ok97 : fldsOk Try.prog 97 = true := by kernel_rfl
@[simp] theorem f_pl97_0 : placeT Try.prog 97 0 = some (0, 8) := by kernel_rfl
@[simp] theorem f_pl97_1 : placeT Try.prog 97 1 = some (8, 8) := by kernel_rfl
@[simp] theorem f_pl97_2 : placeT Try.prog 97 2 = some (16, 8) := by kernel_rfl
@[simp] theorem f_pl97_3 : placeT Try.prog 97 3 = some (24, 8) := by kernel_rfl
@[simp] theorem f_pl97_4 : placeT Try.prog 97 4 = some (32, 8) := by kernel_rfl
@[simp] theorem f_pl97_5 : placeT Try.prog 97 5 = some (40, 8) := by kernel_rfl
@[simp] theorem f_pl97_6 : placeT Try.prog 97 6 = some (48, 8) := by kernel_rfl
@[simp] theorem f_pl97_7 : placeT Try.prog 97 7 = some (56, 8) := by kernel_rfl
@[simp] theorem f_sz98 : szT Try.prog 98 = some 64 := by kernel_rfl
@[simp] theorem f_ag98 : aggT Try.prog 98 = some true := by kernel_rfl
@[simp] theorem f_ib98 : isBoolT Try.prog 98 = false := by kernel_rfl
@[simp] theorem f_is98 : isSlT Try.prog 98 = false := by kernel_rfl
@[simp] theorem f_z98 : zT Try.prog 98 = some (List.replicate 64 (.int .i64 0)) := by kernel_rfl
@[simp] theorem f_ar98 : arT Try.prog 98 = some (8, 8) := by kernel_rfl
@[simp] theorem f_arA98 : arA Try.prog 98 = some true := by kernel_rfl
@[simp] theorem f_ok98 : fldsOk Try.prog 98 = true := by kernel_rfl
@[simp] theorem f_pl98_0 : placeT Try.prog 98 0 = some (0, 8) := by kernel_rfl
@[simp] theorem f_pl98_1 : placeT Try.prog 98 1 = some (8, 8) := by kernel_rfl
@[simp] theorem f_pl98_2 : placeT Try.prog 98 2 = some (16, 8) := by kernel_rfl
@[simp] theorem f_pl98_3 : placeT Try.prog 98 3 = some (24, 8) := by kernel_rfl
@[simp] theorem f_pl98_4 : placeT Try.prog 98 4 = some (32, 8) := by kernel_rfl
@[simp] theorem f_pl98_5 : placeT Try.prog 98 5 = some (40, 8) := by kernel_rfl
@[simp] theorem f_pl98_6 : placeT Try.prog 98 6 = some (48, 8) := by kernel_rfl
@[simp] theorem f_pl98_7 : placeT Try.prog 98 7 = some (56, 8) := by kernel_rfl
@[simp] theorem f_sz99 : szT Try.prog 99 = some 1 := by kernel_rfl
@[simp] theorem f_ag99 : aggT Try.prog 99 = some false := by kernel_rfl
@[simp] theorem f_ib99 : isBoolT Try.prog 99 = false := by kernel_rfl
@[simp] theorem f_is99 : isSlT Try.prog 99 = false := by kernel_rfl
@[simp] theorem f_by99 : byT Try.prog 99 = some 8 := by kernel_rfl
@[simp] theorem f_z99 : zT Try.prog 99 = some [.nilFunc] := by kernel_rfl
@[simp] theorem f_sz100 : szT Try.prog 100 = some 1 := by kernel_rfl
@[simp] theorem f_ag100 : aggT Try.prog 100 = some false := by kernel_rfl
@[simp] theorem f_ib100 : isBoolT Try.prog 100 = false := by kernel_rfl
@[simp] theorem f_is100 : isSlT Try.prog 100 = false := by kernel_rfl
@[simp] theorem f_by100 : byT Try.prog 100 = some 8 := by kernel_rfl
@[simp] theorem f_z100 : zT Try.prog 100 = some [.map none] := by kernel_rfl
@[simp] theorem f_sz101 : szT Try.prog 101 = some 1 := by kernel_rfl
@[simp] theorem f_ag101 : aggT Try.prog 101 = some false := by kernel_rfl
@[simp] theorem f_ib101 : isBoolT Try.prog 101 = false := by kernel_rfl
@[simp] theorem f_is101 : isSlT Try.prog 101 = false := by kernel_rfl
@[simp] theorem f_by101 : byT Try.prog 101 = some 8 := by kernel_rfl
@[simp] theorem f_z101 : zT Try.prog 101 = some [.nilFunc] := by kernel_rfl
@[simp] theorem f_sz102 : szT Try.prog 102 = some 1 := by kernel_rfl
@[simp] theorem f_ag102 : aggT Try.prog 102 = some false := by kernel_rfl
@[simp] theorem f_ib102 : isBoolT Try.prog 102 = false := by kernel_rfl
@[simp] theorem f_is102 : isSlT Try.prog 102 = false := by kernel_rfl
@[simp] theorem f_by102 : byT Try.prog 102 = some 8 := by kernel_rfl
@[simp] theorem f_z102 : zT Try.prog 102 = some [.nilFunc] := by kernel_rfl
@[simp] theorem f_sz103 : szT Try.prog 103 = some 1 := by kernel_rfl
@[simp] theorem f_ag103 : aggT Try.prog 103 = some false := by kernel_rfl
@[simp] theorem f_ib103 : isBoolT Try.prog 103 = false := by kernel_rfl
@[simp] theorem f_is103 : isSlT Try.prog 103 = false := by kernel_rfl
@[simp] theorem f_by103 : byT Try.prog 103 = some 8 := by kernel_rfl
@[simp] theorem f_z103 : zT Try.prog 103 = some [.nilFunc] := by kernel_rfl
@[simp] theorem f_sz104 : szT Try.prog 104 = some 1 := by kernel_rfl
@[simp] theorem f_ag104 : aggT Try.prog 104 = some false := by kernel_rfl
@[simp] theorem f_ib104 : isBoolT Try.prog 104 = false := by kernel_rfl
@[simp] theorem f_is104 : isSlT Try.prog 104 = false := by kernel_rfl
@[simp] theorem f_by104 : byT Try.prog 104 = some 8 := by kernel_rfl
@[simp] theorem f_z104 : zT Try.prog 104 = some [.nilFunc] := by kernel_rfl
@[simp] theorem f_sz105 : szT Try.prog 105 = some 1 := by kernel_rfl
@[simp] theorem f_ag105 : aggT Try.prog 105 = some false := by kernel_rfl
@[simp] theorem f_ib105 : isBoolT Try.prog 105 = false := by kernel_rfl
@[simp] theorem f_is105 : isSlT Try.prog 105 = false := by kernel_rfl
@[simp] theorem f_by105 : byT Try.prog 105 = some 8 := by kernel_rfl
@[simp] theorem f_z105 : zT Try.prog 105 = some [.nilFunc] := by kernel_rfl
@[simp] theorem f_sz106 : szT Try.prog 106 = some 1 := by kernel_rfl
@[simp] theorem f_ag106 : aggT Try.prog 106 = some false := by kernel_rfl
@[simp] theorem f_ib106 : isBoolT Try.prog 106 = false := by kernel_rfl
@[simp] theorem f_is106 : isSlT Try.prog 106 = false := by kernel_rfl
@[simp] theorem f_by106 : byT Try.prog 106 = some 8 := by kernel_rfl
@[simp] theorem f_z106 : zT Try.prog 106 = some [.nilFunc] := by kernel_rfl
@[simp] theorem f_sz107 : szT Try.prog 107 = some 1 := by kernel_rfl
@[simp] theorem f_ag107 : aggT Try.prog 107 = some false := by kernel_rfl
@[simp] theorem f_ib107 : isBoolT Try.prog 107 = false := by kernel_rfl
@[simp] theorem f_is107 : isSlT Try.prog 107 = false := by kernel_rfl
@[simp] theorem f_by107 : byT Try.prog 107 = some 8 := by kernel_rfl
@[simp] theorem f_z107 : zT Try.prog 107 = some [.nilFunc] := by kernel_rfl
@[simp] theorem f_sz108 : szT Try.prog 108 = some 1 := by kernel_rfl
@[simp] theorem f_ag108 : aggT Try.prog 108 = some false := by kernel_rfl
@[simp] theorem f_ib108 : isBoolT Try.prog 108 = false := by kernel_rfl
@[simp] theorem f_is108 : isSlT Try.prog 108 = false := by kernel_rfl
@[simp] theorem f_by108 : byT Try.prog 108 = some 8 := by kernel_rfl
@[simp] theorem f_z108 : zT Try.prog 108 = some [.nilFunc] := by kernel_rfl
@[simp] theorem f_sz109 : szT Try.prog 109 = some 1 := by kernel_rfl
@[simp] theorem f_ag109 : aggT Try.prog 109 = some false := by kernel_rfl
@[simp] theorem f_ib109 : isBoolT Try.prog 109 = false := by kernel_rfl
@[simp] theorem f_is109 : isSlT Try.prog 109 = false := by kernel_rfl
@[simp] theorem f_by109 : byT Try.prog 109 = some 8 := by kernel_rfl
@[simp] theorem f_z109 : zT Try.prog 109 = some [.nilFunc] := by kernel_rfl
@[simp] theorem f_sz110 : szT Try.prog 110 = some 1 := by kernel_rfl
@[simp] theorem f_ag110 : aggT Try.prog 110 = some false := by kernel_rfl
@[simp] theorem f_ib110 : isBoolT Try.prog 110 = false := by kernel_rfl
@[simp] theorem f_is110 : isSlT Try.prog 110 = false := by kernel_rfl
@[simp] theorem f_by110 : byT Try.prog 110 = some 8 := by kernel_rfl
@[simp] theorem f_z110 : zT Try.prog 110 = some [.nilFunc] := by kernel_rfl
@[simp] theorem f_sz111 : szT Try.prog 111 = some 1 := by kernel_rfl
@[simp] theorem f_ag111 : aggT Try.prog 111 = some false := by kernel_rfl
@[simp] theorem f_ib111 : isBoolT Try.prog 111 = false := by kernel_rfl
@[simp] theorem f_is111 : isSlT Try.prog 111 = false := by kernel_rfl
@[simp] theorem f_by111 : byT Try.prog 111 = some 8 := by kernel_rfl
@[simp] theorem f_z111 : zT Try.prog 111 = some [.nilFunc] := by kernel_rfl
@[simp] theorem f_sz112 : szT Try.prog 112 = some 1 := by kernel_rfl
@[simp] theorem f_ag112 : aggT Try.prog 112 = some false := by kernel_rfl
@[simp] theorem f_ib112 : isBoolT Try.prog 112 = false := by kernel_rfl
@[simp] theorem f_is112 : isSlT Try.prog 112 = false := by kernel_rfl
@[simp] theorem f_by112 : byT Try.prog 112 = some 8 := by kernel_rfl
@[simp] theorem f_z112 : zT Try.prog 112 = some [.nilFunc] := by kernel_rfl
@[simp] theorem f_sz113 : szT Try.prog 113 = some 2 := by kernel_rfl
@[simp] theorem f_ag113 : aggT Try.prog 113 = some true := by kernel_rfl
@[simp] theorem f_ib113 : isBoolT Try.prog 113 = false := by kernel_rfl
@[simp] theorem f_is113 : isSlT Try.prog 113 = false := by kernel_rfl
@[simp] theorem f_by113 : byT Try.prog 113 = some 16 := by kernel_rfl
@[simp] theorem f_z113 : zT Try.prog 113 = some [.int .i64 0, .nilFunc] := by kernel_rfl
@[simp] theorem f_ok113 : fldsOk Try.prog 113 = true := by kernel_rfl
@[simp] theorem f_fld113_0 : fldT Try.prog 113 0 = some (0, 1) := by kernel_rfl
@[simp] theorem f_fldA113_0 : fldA Try.prog 113 0 = some false := by kernel_rfl
@[simp] theorem f_pl113_0 : placeT Try.prog 113 0 = some (0, 1) := by kernel_rfl
@[simp] theorem f_fld113_1 : fldT Try.prog 113 1 = some (1, 1) := by kernel_rfl
@[simp] theorem f_fldA113_1 : fldA Try.prog 113 1 = some false := by kernel_rfl
@[simp] theorem f_pl113_1 : placeT Try.prog 113 1 = some (1, 1) := by kernel_rfl
@[simp] theorem f_sz114 : szT Try.prog 114 = some 2 := by kernel_rfl
@[simp] theorem f_ag114 : aggT Try.prog 114 = some true := by kernel_rfl
@[simp] theorem f_ib114 : isBoolT Try.prog 114 = false := by kernel_rfl
@[simp] theorem f_is114 : isSlT Try.prog 114 = false := by kernel_rfl
@[simp] theorem f_by114 : byT Try.prog 114 = some 16 := by kernel_rfl
@[simp] theorem f_z114 : zT Try.prog 114 = some [.int .i64 0, .nilFunc] := by kernel_rfl
@[simp] theorem f_ok114 : fldsOk Try.prog 114 = true := by kernel_rfl
@[simp] theorem f_fld114_0 : fldT Try.prog 114 0 = some (0, 1) := by kernel_rfl
@[simp] theorem f_fldA114_0 : fldA Try.prog 114 0 = some false := by kernel_rfl
@[simp] theorem f_pl114_0 : placeT Try.prog 114 0 = some (0, 1) := by kernel_rfl
@[simp] theorem f_fld114_1 : fldT Try.prog 114 1 = some (1, 1) := by kernel_rfl
@[simp] theorem f_fldA114_1 : fldA Try.prog 114 1 = some false := by kernel_rfl
@[simp] theorem f_pl114_1 : placeT Try.prog 114 1 = some (1, 1) := by kernel_rfl
@[simp] theorem f_sz115 : szT Try.prog 115 = some 1 := by kernel_rfl
@[simp] theorem f_ag115 : aggT Try.prog 115 = some false := by kernel_rfl
@[simp] theorem f_ib115 : isBoolT Try.prog 115 = false := by kernel_rfl
@[simp] theorem f_is115 : isSlT Try.prog 115 = false := by kernel_rfl
@[simp] theorem f_by115 : byT Try.prog 115 = some 8 := by kernel_rfl
@[simp] theorem f_z115 : zT Try.prog 115 = some [.nilFunc] := by kernel_rfl
@[simp] theorem f_sz116 : szT Try.prog 116 = some 1 := by kernel_rfl
@[simp] theorem f_ag116 : aggT Try.prog 116 = some false := by kernel_rfl
@[simp] theorem f_ib116 : isBoolT Try.prog 116 = false := by kernel_rfl
@[simp] theorem f_is116 : isSlT Try.prog 116 = false := by kernel_rfl
@[simp] theorem f_by116 : byT Try.prog 116 = some 8 := by kernel_rfl
@[simp] theorem f_z116 : zT Try.prog 116 = some [.nilFunc] := by kernel_rfl
@[simp] theorem f_sz117 : szT Try.prog 117 = some 1 := by kernel_rfl
@[simp] theorem f_ag117 : aggT Try.prog 117 = some false := by kernel_rfl
@[simp] theorem f_ib117 : isBoolT Try.prog 117 = false := by kernel_rfl
@[simp] theorem f_is117 : isSlT Try.prog 117 = true := by kernel_rfl
@[simp] theorem f_by117 : byT Try.prog 117 = some 24 := by kernel_rfl
@[simp] theorem f_z117 : zT Try.prog 117 = some [.slice none 0 0] := by kernel_rfl
@[simp] theorem f_sl117 : slT Try.prog 117 = some 3 := by kernel_rfl
@[simp] theorem f_el117 : elT Try.prog 117 = some 119 := by kernel_rfl
@[simp] theorem f_sz118 : szT Try.prog 118 = some 3 := by kernel_rfl
@[simp] theorem f_ag118 : aggT Try.prog 118 = some true := by kernel_rfl
@[simp] theorem f_ib118 : isBoolT Try.prog 118 = false := by kernel_rfl
@[simp] theorem f_is118 : isSlT Try.prog 118 = false := by kernel_rfl
@[simp] theorem f_by118 : byT Try.prog 118 = some 24 := by kernel_rfl
@[simp] theorem f_z118 : zT Try.prog 118 = some [.int .i64 0, .int .i64 0, .int .i64 0] := by kernel_rfl
@[simp] theorem f_ok118 : fldsOk Try.prog 118 = true := by kernel_rfl
@[simp] theorem f_fld118_0 : fldT Try.prog 118 0 = some (0, 1) := by kernel_rfl
@[simp] theorem f_fldA118_0 : fldA Try.prog 118 0 = some false := by kernel_rfl
@[simp] theorem f_pl118_0 : placeT Try.prog 118 0 = some (0, 1) := by kernel_rfl
@[simp] theorem f_fld118_1 : fldT Try.prog 118 1 = some (1, 1) := by kernel_rfl
@[simp] theorem f_fldA118_1 : fldA Try.prog 118 1 = some false := by kernel_rfl
@[simp] theorem f_pl118_1 : placeT Try.prog 118 1 = some (1, 1) := by kernel_rfl
@[simp] theorem f_fld118_2 : fldT Try.prog 118 2 = some (2, 1) := by kernel_rfl
@[simp] theorem f_fldA118_2 : fldA Try.prog 118 2 = some false := by kernel_rfl
@[simp] theorem f_pl118_2 : placeT Try.prog 118 2 = some (2, 1) := by kernel_rfl
@[simp] theorem f_sz119 : szT Try.prog 119 = some 3 := by kernel_rfl
@[simp] theorem f_ag119 : aggT Try.prog 119 = some true := by kernel_rfl
@[simp] theorem f_ib119 : isBoolT Try.prog 119 = false := by kernel_rfl
@[simp] theorem f_is119 : isSlT Try.prog 119 = false := by kernel_rfl
@[simp] theorem f_by119 : byT Try.prog 119 = some 24 := by kernel_rfl
@[simp] theorem f_z119 : zT Try.prog 119 = some [.int .i64 0, .int .i64 0, .int .i64 0] := by kernel_rfl
@[simp] theorem f_ok119 : fldsOk Try.prog 119 = true := by kernel_rfl
@[simp] theorem f_fld119_0 : fldT Try.prog 119 0 = some (0, 1) := by kernel_rfl
@[simp] theorem f_fldA119_0 : fldA Try.prog 119 0 = some false := by kernel_rfl
@[simp] theorem f_pl119_0 : placeT Try.prog 119 0 = some (0, 1) := by kernel_rfl
@[simp] theorem f_fld119_1 : fldT Try.prog 119 1 = some (1, 1) := by kernel_rfl
@[simp] theorem f_fldA119_1 : fldA Try.prog 119 1 = some false := by kernel_rfl
@[simp] theorem f_pl119_1 : placeT Try.prog 119 1 = some (1, 1) := by kernel_rfl
@[simp] theorem f_fld119_2 : fldT Try.prog 119 2 = some (2, 1) := by kernel_rfl
@[simp] theorem f_fldA119_2 : fldA Try.prog 119 2 = some false := by kernel_rfl
@[simp] theorem f_pl119_2 : placeT Try.prog 119 2 = some (2, 1) := by kernel_rfl
@[simp] theorem f_sz121 : szT Try.prog 121 = some 1 := by kernel_rfl
@[simp] theorem f_ag121 : aggT Try.prog 121 = some false := by kernel_rfl
@[simp] theorem f_ib121 : isBoolT Try.prog 121 = false := by kernel_rfl
@[simp] theorem f_is121 : isSlT Try.prog 121 = false := by kernel_rfl
@[simp] theorem f_by121 : byT Try.prog 121 = some 8 := by kernel_rfl
@[simp] theorem f_z121 : zT Try.prog 121 = some [.nilFunc] := by kernel_rfl
@[simp] theorem f_sz122 : szT Try.prog 122 = some 2 := by kernel_rfl
@[simp] theorem f_ag122 : aggT Try.prog 122 = some true := by kernel_rfl
@[simp] theorem f_ib122 : isBoolT Try.prog 122 = false := by kernel_rfl
@[simp] theorem f_is122 : isSlT Try.prog 122 = false := by kernel_rfl
@[simp] theorem f_by122 : byT Try.prog 122 = some 16 := by kernel_rfl
@[simp] theorem f_z122 : zT Try.prog 122 = some [.int .i64 0, .int .i64 0] := by kernel_rfl
@[simp] theorem f_ok122 : fldsOk Try.prog 122 = true := by kernel_rfl
@[simp] theorem f_fld122_0 : fldT Try.prog 122 0 = some (0, 1) := by kernel_rfl
@[simp] theorem f_fldA122_0 : fldA Try.prog 122 0 = some false := by kernel_rfl
@[simp] theorem f_pl122_0 : placeT Try.prog 122 0 = some (0, 1) := by kernel_rfl
@[simp] theorem f_fld122_1 : fldT Try.prog 122 1 = some (1, 1) := by kernel_rfl
@[simp] theorem f_fldA122_1 : fldA Try.prog 122 1 = some false := by kernel_rfl
@[simp] theorem f_pl122_1 : placeT Try.prog 122 1 = some (1, 1) := by kernel_rfl
@[simp] theorem f_sz123 : szT Try.prog 123 = some 2 := by kernel_rfl
@[simp] theorem f_ag123 : aggT Try.prog 123 = some true := by kernel_rfl
@[simp] theorem f_ib123 : isBoolT Try.prog 123 = false := by kernel_rfl
@[simp] theorem f_is123 : isSlT Try.prog 123 = false := by kernel_rfl
@[simp] theorem f_by123 : byT Try.prog 123 = some 16 := by kernel_rfl
@[simp] theorem f_z123 : zT Try.prog 123 = some [.int .i64 0, .int .i64 0] := by kernel_rfl
@[simp] theorem f_ok123 : fldsOk Try.prog 123 = true := by kernel_rfl
@[simp] theorem f_fld123_0 : fldT Try.prog 123 0 = some (0, 1) := by kernel_rfl
@[simp] theorem f_fldA123_0 : fldA Try.prog 123 0 = some false := by kernel_rfl
@[simp] theorem f_pl123_0 : placeT Try.prog 123 0 = some (0, 1) := by kernel_rfl
@[simp] theorem f_fld123_1 : fldT Try.prog 123 1 = some (1, 1) := by kernel_rfl
@[simp] theorem f_fldA123_1 : fldA Try.prog 123 1 = some false := by kernel_rfl
@[simp] theorem f_pl123_1 : placeT Try.prog 123 1 = some (1, 1) := by kernel_rfl
@[simp] theorem f_sz124 : szT Try.prog 124 = some 1 := by kernel_rfl
@[simp] theorem f_ag124 : aggT Try.prog 124 = some false := by kernel_rfl
@[simp] theorem f_ib124 : isBoolT Try.prog 124 = false := by kernel_rfl
@[simp] theorem f_is124 : isSlT Try.prog 124 = false := by kernel_rfl
@[simp] theorem f_by124 : byT Try.prog 124 = some 8 := by kernel_rfl
@[simp] theorem f_z124 : zT Try.prog 124 = some [.nilFunc] := by kernel_rfl
@[simp] theorem f_sz125 : szT Try.prog 125 = some 1 := by kernel_rfl
@[simp] theorem f_ag125 : aggT Try.prog 125 = some false := by kernel_rfl
@[simp] theorem f_ib125 : isBoolT Try.prog 125 = false := by kernel_rfl
@[simp] theorem f_is125 : isSlT Try.prog 125 = false := by kernel_rfl
@[simp] theorem f_by125 : byT Try.prog 125 = some 8 := by kernel_rfl
@[simp] theorem f_z125 : zT Try.prog 125 = some [.nilFunc] := by kernel_rfl
@[simp] theorem f_sz126 : szT Try.prog 126 = some 2 := by kernel_rfl
@[simp] theorem f_ag126 : aggT Try.prog 126 = some true := by kernel_rfl
@[simp] theorem f_ib126 : isBoolT Try.prog 126 = false := by kernel_rfl
@[simp] theorem f_is126 : isSlT Try.prog 126 = false := by kernel_rfl
@[simp] theorem f_by126 : byT Try.prog 126 = some 16 := by kernel_rfl
@[simp] theorem f_z126 : zT Try.prog 126 = some [.int .i64 0, .int .i64 0] := by kernel_rfl
@[simp] theorem f_ok126 : fldsOk Try.prog 126 = true := by kernel_rfl
@[simp] theorem f_fld126_0 : fldT Try.prog 126 0 = some (0, 1) := by kernel_rfl
@[simp] theorem f_fldA126_0 : fldA Try.prog 126 0 = some false := by kernel_rfl
@[simp] theorem f_pl126_0 : placeT Try.prog 126 0 = some (0, 1) := by kernel_rfl
@[simp] theorem f_fld126_1 : fldT Try.prog 126 1 = some (1, 1) := by kernel_rfl
@[simp] theorem f_fldA126_1 : fldA Try.prog 126 1 = some false := by kernel_rfl
@[simp] theorem f_pl126_1 : placeT Try.prog 126 1 = some (1, 1) := by kernel_rfl
@[simp] theorem f_sz128 : szT Try.prog 128 = some 1 := by kernel_rfl
@[simp] theorem f_ag128 : aggT Try.prog 128 = some false := by kernel_rfl
@[simp] theorem f_ib128 : isBoolT Try.prog 128 = false := by kernel_rfl
@[simp] theorem f_is128 : isSlT Try.prog 128 = false := by kernel_rfl
@[simp] theorem f_by128 : byT Try.prog 128 = some 8 := by kernel_rfl
@[simp] theorem f_z128 : zT Try.prog 128 = some [.nilFunc] := by kernel_rfl
@[simp] theorem f_sz129 : szT Try.prog 129 = some 1 := by kernel_rfl
@[simp] theorem f_ag129 : aggT Try.prog 129 = some false := by kernel_rfl
@[simp] theorem f_ib129 : isBoolT Try.prog 129 = false := by kernel_rfl
@[simp] theorem f_is129 : isSlT Try.prog 129 = false := by kernel_rfl
@[simp] theorem f_by129 : byT Try.prog 129 = some 8 := by kernel_rfl
@[simp] theorem f_z129 : zT Try.prog 129 = some [.nilFunc] := by kernel_rfl
@[simp] theorem f_sz130 : szT Try.prog 130 = some 512 := by kernel_rfl
@[simp] theorem f_ag130 : aggT Try.prog 130 = some true := by kernel_rfl
@[simp] theorem f_ib130 : isBoolT Try.prog 130 = false := by kernel_rfl
@[simp] theorem f_is130 : isSlT Try.prog 130 = false := by kernel_rfl
@[simp] theorem f_sz131 : szT Try.prog 131 = some 1 := by kernel_rfl
@[simp] theorem f_ag131 : aggT Try.prog 131 = some false := by kernel_rfl
@[simp] theorem f_ib131 : isBoolT Try.prog 131 = false := by kernel_rfl
@[simp] theorem f_is131 : isSlT Try.prog 131 = false := by kernel_rfl
@[simp] theorem f_by131 : byT Try.prog 131 = some 8 := by kernel_rfl
@[simp] theorem f_z131 : zT Try.prog 131 = some [.nilFunc] := by kernel_rfl
@[simp] theorem f_sz132 : szT Try.prog 132 = some 1 := by kernel_rfl
@[simp] theorem f_ag132 : aggT Try.prog 132 = some false := by kernel_rfl
@[simp] theorem f_ib132 : isBoolT Try.prog 132 = false := by kernel_rfl
@[simp] theorem f_is132 : isSlT Try.prog 132 = false := by kernel_rfl
@[simp] theorem f_by132 : byT Try.prog 132 = some 8 := by kernel_rfl
@[simp] theorem f_z132 : zT Try.prog 132 = some [.nilFunc] := by kernel_rfl
@[simp] theorem f_sz133 : szT Try.prog 133 = some 1 := by kernel_rfl
@[simp] theorem f_ag133 : aggT Try.prog 133 = some false := by kernel_rfl
@[simp] theorem f_ib133 : isBoolT Try.prog 133 = false := by kernel_rfl
@[simp] theorem f_is133 : isSlT Try.prog 133 = false := by kernel_rfl
@[simp] theorem f_by133 : byT Try.prog 133 = some 8 := by kernel_rfl
@[simp] theorem f_z133 : zT Try.prog 133 = some [.nilFunc] := by kernel_rfl
@[simp] theorem f_sz134 : szT Try.prog 134 = some 1 := by kernel_rfl
@[simp] theorem f_ag134 : aggT Try.prog 134 = some false := by kernel_rfl
@[simp] theorem f_ib134 : isBoolT Try.prog 134 = false := by kernel_rfl
@[simp] theorem f_is134 : isSlT Try.prog 134 = false := by kernel_rfl
@[simp] theorem f_by134 : byT Try.prog 134 = some 4 := by kernel_rfl
@[simp] theorem f_z134 : zT Try.prog 134 = some [.int .u32 0] := by kernel_rfl
@[simp] theorem f_sz135 : szT Try.prog 135 = some 1 := by kernel_rfl
@[simp] theorem f_ag135 : aggT Try.prog 135 = some false := by kernel_rfl
@[simp] theorem f_ib135 : isBoolT Try.prog 135 = false := by kernel_rfl
@[simp] theorem f_is135 : isSlT Try.prog 135 = false := by kernel_rfl
@[simp] theorem f_by135 : byT Try.prog 135 = some 8 := by kernel_rfl
@[simp] theorem f_z135 : zT Try.prog 135 = some [.nilFunc] := by kernel_rfl
@[simp] theorem f_sz136 : szT Try.prog 136 = some 1 := by kernel_rfl
@[simp] theorem f_ag136 : aggT Try.prog 136 = some false := by kernel_rfl
@[simp] theorem f_ib136 : isBoolT Try.prog 136 = false := by kernel_rfl
@[simp] theorem f_is136 : isSlT Try.prog 136 = false := by kernel_rfl
@[simp] theorem f_by136 : byT Try.prog 136 = some 8 := by kernel_rfl
@[simp] theorem f_z136 : zT Try.prog 136 = some [.int .u64 0] := by kernel_rfl
@[simp] theorem f_sz137 : szT Try.prog 137 = some 1 := by kernel_rfl
@[simp] theorem f_ag137 : aggT Try.prog 137 = some false := by kernel_rfl
@[simp] theorem f_ib137 : isBoolT Try.prog 137 = false := by kernel_rfl
@[simp] theorem f_is137 : isSlT Try.prog 137 = false := by kernel_rfl
@[simp] theorem f_by137 : byT Try.prog 137 = some 8 := by kernel_rfl
@[simp] theorem f_z137 : zT Try.prog 137 = some [.nilFunc] := by kernel_rfl
@[simp] theorem f_sz138 : szT Try.prog 138 = some 1 := by kernel_rfl
@[simp] theorem f_ag138 : aggT Try.prog 138 = some false := by kernel_rfl
@[simp] theorem f_ib138 : isBoolT Try.prog 138 = false := by kernel_rfl
@[simp] theorem f_is138 : isSlT Try.prog 138 = false := by kernel_rfl
@[simp] theorem f_by138 : byT Try.prog 138 = some 8 := by kernel_rfl
@[simp] theorem f_z138 : zT Try.prog 138 = some [.nilFunc] := by kernel_rfl
@[simp] theorem f_sz139 : szT Try.prog 139 = some 1 := by kernel_rfl
@[simp] theorem f_ag139 : aggT Try.prog 139 = some false := by kernel_rfl
@[simp] theorem f_ib139 : isBoolT Try.prog 139 = false := by kernel_rfl
@[simp] theorem f_is139 : isSlT Try.prog 139 = false := by kernel_rfl
@[simp] theorem f_by139 : byT Try.prog 139 = some 8 := by kernel_rfl
@[simp] theorem f_z139 : zT Try.prog 139 = some [.nilFunc] := by kernel_rfl
@[simp] theorem f_cv2_2 : cvT Try.prog 2 2 = some .i64 := by kernel_rfl
@[simp] theorem f_cv2_3 : cvT Try.prog 2 3 = some .i64 := by kernel_rfl
@[simp] theorem f_cv2_5 : cvT Try.prog 2 5 = some .u8 := by kernel_rfl
@[simp] theorem f_cv2_6 : cvT Try.prog 2 6 = some .u8 := by kernel_rfl
@[simp] theorem f_cv2_12 : cvT Try.prog 2 12 = some .u64 := by kernel_rfl
@[simp] theorem f_cv2_21 : cvT Try.prog 2 21 = some .i32 := by kernel_rfl
@[simp] theorem f_cv2_26 : cvT Try.prog 2 26 = some .i64 := by kernel_rfl
@[simp] theorem f_cv2_63 : cvT Try.prog 2 63 = some .u64 := by kernel_rfl
@[simp] theorem f_cv2_134 : cvT Try.prog 2 134 = some .u32 := by kernel_rfl
@[simp] theorem f_cv2_136 : cvT Try.prog 2 136 = some .u64 := by kernel_rfl
@[simp] theorem f_cv3_2 : cvT Try.prog 3 2 = some .i64 := by kernel_rfl
@[simp] theorem f_cv3_3 : cvT Try.prog 3 3 = some .i64 := by kernel_rfl
@[simp] theorem f_cv3_5 : cvT Try.prog 3 5 = some .u8 := by kernel_rfl
@[simp] theorem f_cv3_6 : cvT Try.prog 3 6 = some .u8 := by kernel_rfl
@[simp] theorem f_cv3_12 : cvT Try.prog 3 12 = some .u64 := by kernel_rfl
@[simp] theorem f_cv3_21 : cvT Try.prog 3 21 = some .i32 := by kernel_rfl
@[simp] theorem f_cv3_26 : cvT Try.prog 3 26 = some .i64 := by kernel_rfl
@[simp] theorem f_cv3_63 : cvT Try.prog 3 63 = some .u64 := by kernel_rfl
@[simp] theorem f_cv3_134 : cvT Try.prog 3 134 = some .u32 := by kernel_rfl
@[simp] theorem f_cv3_136 : cvT Try.prog 3 136 = some .u64 := by kernel_rfl
@[simp] theorem f_cv5_2 : cvT Try.prog 5 2 = some .i64 := by kernel_rfl
@[simp] theorem f_cv5_3 : cvT Try.prog 5 3 = some .i64 := by kernel_rfl
@[simp] theorem f_cv5_5 : cvT Try.prog 5 5 = some .u8 := by kernel_rfl
@[simp] theorem f_cv5_6 : cvT Try.prog 5 6 = some .u8 := by kernel_rfl
@[simp] theorem f_cv5_12 : cvT Try.prog 5 12 = some .u64 := by kernel_rfl
@[simp] theorem f_cv5_21 : cvT Try.prog 5 21 = some .i32 := by kernel_rfl
@[simp] theorem f_cv5_26 : cvT Try.prog 5 26 = some .i64 := by kernel_rfl
@[simp] theorem f_cv5_63 : cvT Try.prog 5 63 = some .u64 := by kernel_rfl
@[simp] theorem f_cv5_134 : cvT Try.prog 5 134 = some .u32 := by kernel_rfl
@[simp] theorem f_cv5_136 : cvT Try.prog 5 136 = some .u64 := by kernel_rfl
@[simp] theorem f_cv6_2 : cvT Try.prog 6 2 = some .i64 := by kernel_rfl
@[simp] theorem f_cv6_3 : cvT Try.prog 6 3 = some .i64 := by kernel_rfl
@[simp] theorem f_cv6_5 : cvT Try.prog 6 5 = some .u8 := by kernel_rfl
@[simp] theorem f_cv6_6 : cvT Try.prog 6 6 = some .u8 := by kernel_rfl
@[simp] theorem f_cv6_12 : cvT Try.prog 6 12 = some .u64 := by kernel_rfl
@[simp] theorem f_cv6_21 : cvT Try.prog 6 21 = some .i32 := by kernel_rfl
@[simp] theorem f_cv6_26 : cvT Try.prog 6 26 = some .i64 := by kernel_rfl
@[simp] theorem f_cv6_63 : cvT Try.prog 6 63 = some .u64 := by kernel_rfl
@[simp] theorem f_cv6_134 : cvT Try.prog 6 134 = some .u32 := by kernel_rfl
@[simp] theorem f_cv6_136 : cvT Try.prog 6 136 = some .u64 := by kernel_rfl
@[simp] theorem f_cv12_2 : cvT Try.prog 12 2 = some .i64 := by kernel_rfl
@[simp] theorem f_cv12_3 : cvT Try.prog 12 3 = some .i64 := by kernel_rfl
@[simp] theorem f_cv12_5 : cvT Try.prog 12 5 = some .u8 := by kernel_rfl
@[simp] theorem f_cv12_6 : cvT Try.prog 12 6 = some .u8 := by kernel_rfl
@[simp] theorem f_cv12_12 : cvT Try.prog 12 12 = some .u64 := by kernel_rfl
@[simp] theorem f_cv12_21 : cvT Try.prog 12 21 = some .i32 := by kernel_rfl
@[simp] theorem f_cv12_26 : cvT Try.prog 12 26 = some .i64 := by kernel_rfl
@[simp] theorem f_cv12_63 : cvT Try.prog 12 63 = some .u64 := by kernel_rfl
@[simp] theorem f_cv12_134 : cvT Try.prog 12 134 = some .u32 := by kernel_rfl
@[simp] theorem f_cv12_136 : cvT Try.prog 12 136 = some .u64 := by kernel_rfl
@[simp] theorem f_cv21_2 : cvT Try.prog 21 2 = some .i64 := by kernel_rfl
@[simp] theorem f_cv21_3 : cvT Try.prog 21 3 = some .i64 := by kernel_rfl
@[simp] theorem f_cv21_5 : cvT Try.prog 21 5 = some .u8 := by kernel_rfl
@[simp] theorem f_cv21_6 : cvT Try.prog 21 6 = some .u8 := by kernel_rfl
@[simp] theorem f_cv21_12 : cvT Try.prog 21 12 = some .u64 := by kernel_rfl
@[simp] theorem f_cv21_21 : cvT Try.prog 21 21 = some .i32 := by kernel_rfl
@[simp] theorem f_cv21_26 : cvT Try.prog 21 26 = some .i64 := by kernel_rfl
@[simp] theorem f_cv21_63 : cvT Try.prog 21 63 = some .u64 := by kernel_rfl
@[simp] theorem f_cv21_134 : cvT Try.prog 21 134 = some .u32 := by kernel_rfl
@[simp] theorem f_cv21_136 : cvT Try.prog 21 136 = some .u64 := by kernel_rfl
@[simp] theorem f_cv26_2 : cvT Try.prog 26 2 = some .i64 := by kernel_rfl
@[simp] theorem f_cv26_3 : cvT Try.prog 26 3 = some .i64 := by kernel_rfl
@[simp] theorem f_cv26_5 : cvT Try.prog 26 5 = some .u8 := by kernel_rfl
@[simp] theorem f_cv26_6 : cvT Try.prog 26 6 = some .u8 := by kernel_rfl
@[simp] theorem f_cv26_12 : cvT Try.prog 26 12 = some .u64 := by kernel_rfl
@[simp] theorem f_cv26_21 : cvT Try.prog 26 21 = some .i32 := by kernel_rfl
@[simp] theorem f_cv26_26 : cvT Try.prog 26 26 = some .i64 := by kernel_rfl
@[simp] theorem f_cv26_63 : cvT Try.prog 26 63 = some .u64 := by kernel_rfl
@[simp] theorem f_cv26_134 : cvT Try.prog 26 134 = some .u32 := by kernel_rfl
@[simp] theorem f_cv26_136 : cvT Try.prog 26 136 = some .u64 := by kernel_rfl
@[simp] theorem f_cv63_2 : cvT Try.prog 63 2 = some .i64 := by kernel_rfl
@[simp] theorem f_cv63_3 : cvT Try.prog 63 3 = some .i64 := by kernel_rfl
@[simp] theorem f_cv63_5 : cvT Try.prog 63 5 = some .u8 := by kernel_rfl
@[simp] theorem f_cv63_6 : cvT Try.prog 63 6 = some .u8 := by kernel_rfl
@[simp] theorem f_cv63_12 : cvT Try.prog 63 12 = some .u64 := by kernel_rfl
@[simp] theorem f_cv63_21 : cvT Try.prog 63 21 = some .i32 := by kernel_rfl
@[simp] theorem f_cv63_26 : cvT Try.prog 63 26 = some .i64 := by kernel_rfl
@[simp] theorem f_cv63_63 : cvT Try.prog 63 63 = some .u64 := by kernel_rfl
@[simp] theorem f_cv63_134 : cvT Try.prog 63 134 = some .u32 := by kernel_rfl
@[simp] theorem f_cv63_136 : cvT Try.prog 63 136 = some .u64 := by kernel_rfl
@[simp] theorem f_cv134_2 : cvT Try.prog 134 2 = some .i64 := by kernel_rfl
@[simp] theorem f_cv134_3 : cvT Try.prog 134 3 = some .i64 := by kernel_rfl
@[simp] theorem f_cv134_5 : cvT Try.prog 134 5 = some .u8 := by kernel_rfl
@[simp] theorem f_cv134_6 : cvT Try.prog 134 6 = some .u8 := by kernel_rfl
@[simp] theorem f_cv134_12 : cvT Try.prog 134 12 = some .u64 := by kernel_rfl
@[simp] theorem f_cv134_21 : cvT Try.prog 134 21 = some .i32 := by kernel_rfl
@[simp] theorem f_cv134_26 : cvT Try.prog 134 26 = some .i64 := by kernel_rfl
@[simp] theorem f_cv134_63 : cvT Try.prog 134 63 = some .u64 := by kernel_rfl
@[simp] theorem f_cv134_134 : cvT Try.prog 134 134 = some .u32 := by kernel_rfl
@[simp] theorem f_cv134_136 : cvT Try.prog 134 136 = some .u64 := by kernel_rfl
@[simp] theorem f_cv136_2 : cvT Try.prog 136 2 = some .i64 := by kernel_rfl
@[simp] theorem f_cv136_3 : cvT Try.prog 136 3 = some .i64 := by kernel_rfl
@[simp] theorem f_cv136_5 : cvT Try.prog 136 5 = some .u8 := by kernel_rfl
@[simp] theorem f_cv136_6 : cvT Try.prog 136 6 = some .u8 := by kernel_rfl
@[simp] theorem f_cv136_12 : cvT Try.prog 136 12 = some .u64 := by kernel_rfl
@[simp] theorem f_cv136_21 : cvT Try.prog 136 21 = some .i32 := by kernel_rfl
@[simp] theorem f_cv136_26 : cvT Try.prog 136 26 = some .i64 := by kernel_rfl
@[simp] theorem f_cv136_63 : cvT Try.prog 136 63 = some .u64 := by kernel_rfl
@[simp] theorem f_cv136_134 : cvT Try.prog 136 134 = some .u32 := by kernel_rfl
@[simp] theorem f_cv136_136 : cvT Try.prog 136 136 = some .u64 := by kernel_rfl
@[simp] theorem nt3 : Try.f3.ntmps = 41 := rfl
@[simp] theorem re3 : Try.f3.results.toList = [.tmp 2] := rfl
theorem call3 : Callable Try.prog 3 := callable_of Try.func3 rfl (by kernel_rfl)
@[simp] theorem nt4 : Try.f4.ntmps = 114 := rfl
@[simp] theorem re4 : Try.f4.results.toList = [.tmp 2] := rfl
theorem call4 : Callable Try.prog 4 := callable_of Try.func4 rfl (by kernel_rfl)
@[simp] theorem nt5 : Try.f5.ntmps = 124 := rfl
@[simp] theorem re5 : Try.f5.results.toList = [.tmp 4] := rfl
theorem call5 : Callable Try.prog 5 := callable_of Try.func5 rfl (by kernel_rfl)
@[simp] theorem nt6 : Try.f6.ntmps = 82 := rfl
@[simp] theorem re6 : Try.f6.results.toList = [.tmp 4] := rfl
theorem call6 : Callable Try.prog 6 := callable_of Try.func6 rfl (by kernel_rfl)
@[simp] theorem nt7 : Try.f7.ntmps = 42 := rfl
@[simp] theorem re7 : Try.f7.results.toList = [.tmp 2] := rfl
theorem call7 : Callable Try.prog 7 := callable_of Try.func7 rfl (by kernel_rfl)
@[simp] theorem nt8 : Try.f8.ntmps = 42 := rfl
@[simp] theorem re8 : Try.f8.results.toList = [.tmp 2] := rfl
theorem call8 : Callable Try.prog 8 := callable_of Try.func8 rfl (by kernel_rfl)
@[simp] theorem nt9 : Try.f9.ntmps = 77 := rfl
@[simp] theorem re9 : Try.f9.results.toList = [.tmp 2] := rfl
theorem call9 : Callable Try.prog 9 := callable_of Try.func9 rfl (by kernel_rfl)
@[simp] theorem nt10 : Try.f10.ntmps = 173 := rfl
@[simp] theorem re10 : Try.f10.results.toList = [.tmp 2] := rfl
theorem call10 : Callable Try.prog 10 := callable_of Try.func10 rfl (by kernel_rfl)
@[simp] theorem nt11 : Try.f11.ntmps = 149 := rfl
@[simp] theorem re11 : Try.f11.results.toList = [.tmp 4] := rfl
theorem call11 : Callable Try.prog 11 := callable_of Try.func11 rfl (by kernel_rfl)
@[simp] theorem nt12 : Try.f12.ntmps = 79 := rfl
@[simp] theorem re12 : Try.f12.results.toList = [.tmp 4] := rfl
theorem call12 : Callable Try.prog 12 := callable_of Try.func12 rfl (by kernel_rfl)
@[simp] theorem nt13 : Try.f13.ntmps = 47 := rfl
@[simp] theorem re13 : Try.f13.results.toList = [.tmp 4] := rfl
theorem call13 : Callable Try.prog 13 := callable_of Try.func13 rfl (by kernel_rfl)
@[simp] theorem nt14 : Try.f14.ntmps = 107 := rfl
@[simp] theorem re14 : Try.f14.results.toList = [.tmp 4] := rfl
theorem call14 : Callable Try.prog 14 := callable_of Try.func14 rfl (by kernel_rfl)
@[simp] theorem nt15 : Try.f15.ntmps = 150 := rfl
@[simp] theorem re15 : Try.f15.results.toList = [.tmp 10] := rfl
theorem call15 : Callable Try.prog 15 := callable_of Try.func15 rfl (by kernel_rfl)
@[simp] theorem nt16 : Try.f16.ntmps = 75 := rfl
@[simp] theorem re16 : Try.f16.results.toList = [.tmp 4] := rfl
theorem call16 : Callable Try.prog 16 := callable_of Try.func16 rfl (by kernel_rfl)
@[simp] theorem nt17 : Try.f17.ntmps = 136 := rfl
@[simp] theorem re17 : Try.f17.results.toList = [.tmp 4] := rfl
theorem call17 : Callable Try.prog 17 := callable_of Try.func17 rfl (by kernel_rfl)
@[simp] theorem nt18 : Try.f18.ntmps = 37 := rfl
@[simp] theorem re18 : Try.f18.results.toList = [.tmp 2, .tmp 3] := rfl
theorem call18 : Callable Try.prog 18 := callable_of Try.func18 rfl (by kernel_rfl)
@[simp] theorem nt19 : Try.f19.ntmps = 52 := rfl
@[simp] theorem re19 : Try.f19.results.toList = [.cell 2 32] := rfl
theorem call19 : Callable Try.prog 19 := callable_of Try.func19 rfl (by kernel_rfl)
@[simp] theorem nt20 : Try.f20.ntmps = 88 := rfl
@[simp] theorem re20 : Try.f20.results.toList = [.tmp 2] := rfl
theorem call20 : Callable Try.prog 20 := callable_of Try.func20 rfl (by kernel_rfl)
@[simp] theorem nt21 : Try.f21.ntmps = 20 := rfl
@[simp] theorem re21 : Try.f21.results.toList = [.tmp 0] := rfl
theorem call21 : Callable Try.prog 21 := callable_of Try.func21 rfl (by kernel_rfl)
@[simp] theorem nt22 : Try.f22.ntmps = 51 := rfl
@[simp] theorem re22 : Try.f22.results.toList = [.tmp 2, .tmp 3] := rfl
theorem call22 : Callable Try.prog 22 := callable_of Try.func22 rfl (by kernel_rfl)
@[simp] theorem nt23 : Try.f23.ntmps = 18 := rfl
@[simp] theorem re23 : Try.f23.results.toList = [.tmp 2, .tmp 3] := rfl
theorem call23 : Callable Try.prog 23 := callable_of Try.func23 rfl (by kernel_rfl)
@[simp] theorem nt24 : Try.f24.ntmps = 23 := rfl
@[simp] theorem re24 : Try.f24.results.toList = [.tmp 2, .tmp 3] := rfl
theorem call24 : Callable Try.prog 24 := callable_of Try.func24 rfl (by kernel_rfl)
@[simp] theorem nt25 : Try.f25.ntmps = 12 := rfl
@[simp] theorem re25 : Try.f25.results.toList = [.tmp 2, .tmp 3] := rfl
theorem call25 : Callable Try.prog 25 := callable_of Try.func25 rfl (by kernel_rfl)
@[simp] theorem nt26 : Try.f26.ntmps = 25 := rfl
@[simp] theorem re26 : Try.f26.results.toList = [.tmp 4, .tmp 5] := rfl
theorem call26 : Callable Try.prog 26 := callable_of Try.func26 rfl (by kernel_rfl)
@[simp] theorem nt27 : Try.f27.ntmps = 13 := rfl
@[simp] theorem re27 : Try.f27.results.toList = [.tmp 2, .tmp 3] := rfl
theorem call27 : Callable Try.prog 27 := callable_of Try.func27 rfl (by kernel_rfl)
@[simp] theorem nt28 : Try.f28.ntmps = 37 := rfl
@[simp] theorem re28 : Try.f28.results.toList = [.tmp 2] := rfl
theorem call28 : Callable Try.prog 28 := callable_of Try.func28 rfl (by kernel_rfl)
@[simp] theorem nt29 : Try.f29.ntmps = 22 := rfl
@[simp] theorem re29 : Try.f29.results.toList = [.tmp 2] := rfl
theorem call29 : Callable Try.prog 29 := callable_of Try.func29 rfl (by kernel_rfl)
@[simp] theorem nt30 : Try.f30.ntmps = 10 := rfl
@[simp] theorem re30 : Try.f30.results.toList = [.tmp 4] := rfl
theorem call30 : Callable Try.prog 30 := callable_of Try.func30 rfl (by kernel_rfl)
@[simp] theorem nt31 : Try.f31.ntmps = 27 := rfl
@[simp] theorem re31 : Try.f31.results.toList = [.tmp 4, .tmp 5] := rfl
theorem call31 : Callable Try.prog 31 := callable_of Try.func31 rfl (by kernel_rfl)
@[simp] theorem nt32 : Try.f32.ntmps = 9 := rfl
@[simp] theorem re32 : Try.f32.results.toList = [.cell 2 48] := rfl
theorem call32 : Callable Try.prog 32 := callable_of Try.func32 rfl (by kernel_rfl)
@[simp] theorem nt33 : Try.f33.ntmps = 28 := rfl
@[simp] theorem re33 : Try.f33.results.toList = [.tmp 4, .tmp 5] := rfl
theorem call33 : Callable Try.prog 33 := callable_of Try.func33 rfl (by kernel_rfl)
@[simp] theorem nt34 : Try.f34.ntmps = 51 := rfl
@[simp] theorem re34 : Try.f34.results.toList = [.tmp 2] := rfl
theorem call34 : Callable Try.prog 34 := callable_of Try.func34 rfl (by kernel_rfl)
@[simp] theorem nt35 : Try.f35.ntmps = 16 := rfl
@[simp] theorem re35 : Try.f35.results.toList = [.tmp 4, .tmp 5] := rfl
theorem call35 : Callable Try.prog 35 := callable_of Try.func35 rfl (by kernel_rfl)
@[simp] theorem nt36 : Try.f36.ntmps = 15 := rfl
@[simp] theorem re36 : Try.f36.results.toList = [.tmp 4] := rfl
theorem call36 : Callable Try.prog 36 := callable_of Try.func36 rfl (by kernel_rfl)
@[simp] theorem nt37 : Try.f37.ntmps = 26 := rfl
@[simp] theorem re37 : Try.f37.results.toList = [.tmp 4] := rfl
theorem call37 : Callable Try.prog 37 := callable_of Try.func37 rfl (by kernel_rfl)
@[simp] theorem nt38 : Try.f38.ntmps = 153 := rfl
@[simp] theorem re38 : Try.f38.results.toList = [.tmp 2, .tmp 3] := rfl
theorem call38 : Callable Try.prog 38 := callable_of Try.func38 rfl (by kernel_rfl)
@[simp] theorem nt39 : Try.f39.ntmps = 151 := rfl
@[simp] theorem re39 : Try.f39.results.toList = [.tmp 2, .tmp 3] := rfl
theorem call39 : Callable Try.prog 39 := callable_of Try.func39 rfl (by kernel_rfl)
@[simp] theorem nt40 : Try.f40.ntmps = 32 := rfl
@[simp] theorem re40 : Try.f40.results.toList = [.tmp 6] := rfl
theorem call40 : Callable Try.prog 40 := callable_of Try.func40 rfl (by kernel_rfl)
@[simp] theorem nt41 : Try.f41.ntmps = 62 := rfl
@[simp] theorem re41 : Try.f41.results.toList = [.tmp 2, .tmp 3] := rfl
theorem call41 : Callable Try.prog 41 := callable_of Try.func41 rfl (by kernel_rfl)
@[simp] theorem nt42 : Try.f42.ntmps = 88 := rfl
@[simp] theorem re42 : Try.f42.results.toList = [.tmp 2, .tmp 3] := rfl
theorem call42 : Callable Try.prog 42 := callable_of Try.func42 rfl (by kernel_rfl)
@[simp] theorem nt43 : Try.f43.ntmps = 18 := rfl
@[simp] theorem re43 : Try.f43.results.toList = [.tmp 3] := rfl
theorem call43 : Callable Try.prog 43 := callable_of Try.func43 rfl (by kernel_rfl)
@[simp] theorem nt44 : Try.f44.ntmps = 69 := rfl
@[simp] theorem re44 : Try.f44.results.toList = [.cell 4 48, .tmp 5] := rfl
theorem call44 : Callable Try.prog 44 := callable_of Try.func44 rfl (by kernel_rfl)
@[simp] theorem nt45 : Try.f45.ntmps = 9 := rfl
@[simp] theorem re45 : Try.f45.results.toList = [.tmp 2] := rfl
theorem call45 : Callable Try.prog 45 := callable_of Try.func45 rfl (by kernel_rfl)
@[simp] theorem nt46 : Try.f46.ntmps = 17 := rfl
@[simp] theorem re46 : Try.f46.results.toList = [.tmp 4] := rfl
theorem call46 : Callable Try.prog 46 := callable_of Try.func46 rfl (by kernel_rfl)
@[simp] theorem nt47 : Try.f47.ntmps = 32 := rfl
@[simp] theorem re47 : Try.f47.results.toList = [.cell 4 46, .tmp 5] := rfl
theorem call47 : Callable Try.prog 47 := callable_of Try.func47 rfl (by kernel_rfl)
@[simp] theorem nt48 : Try.f48.ntmps = 51 := rfl
@[simp] theorem re48 : Try.f48.results.toList = [.cell 4 48, .tmp 5] := rfl
theorem call48 : Callable Try.prog 48 := callable_of Try.func48 rfl (by kernel_rfl)
@[simp] theorem nt49 : Try.f49.ntmps = 42 := rfl
@[simp] theorem re49 : Try.f49.results.toList = [.cell 4 46] := rfl
theorem call49 : Callable Try.prog 49 := callable_of Try.func49 rfl (by kernel_rfl)
@[simp] theorem nt50 : Try.f50.ntmps = 9 := rfl
@[simp] theorem re50 : Try.f50.results.toList = [.tmp 4] := rfl
theorem call50 : Callable Try.prog 50 := callable_of Try.func50 rfl (by kernel_rfl)
@[simp] theorem nt51 : Try.f51.ntmps = 116 := rfl
@[simp] theorem re51 : Try.f51.results.toList = [.tmp 2, .tmp 3] := rfl
theorem call51 : Callable Try.prog 51 := callable_of Try.func51 rfl (by kernel_rfl)
@[simp] theorem nt52 : Try.f52.ntmps = 47 := rfl
@[simp] theorem re52 : Try.f52.results.toList = [.tmp 4, .tmp 5] := rfl
theorem call52 : Callable Try.prog 52 := callable_of Try.func52 rfl (by kernel_rfl)
@[simp] theorem nt53 : Try.f53.ntmps = 25 := rfl
@[simp] theorem re53 : Try.f53.results.toList = [.tmp 2] := rfl
theorem call53 : Callable Try.prog 53 := callable_of Try.func53 rfl (by kernel_rfl)
@[simp] theorem nt54 : Try.f54.ntmps = 45 := rfl
@[simp] theorem re54 : Try.f54.results.toList = [.tmp 4] := rfl
theorem call54 : Callable Try.prog 54 := callable_of Try.func54 rfl (by kernel_rfl)
@[simp] theorem nt55 : Try.f55.ntmps = 63 := rfl
@[simp] theorem re55 : Try.f55.results.toList = [.tmp 2] := rfl
theorem call55 : Callable Try.prog 55 := callable_of Try.func55 rfl (by kernel_rfl)
@[simp] theorem nt56 : Try.f56.ntmps = 22 := rfl
@[simp] theorem re56 : Try.f56.results.toList = [.tmp 2] := rfl
theorem call56 : Callable Try.prog 56 := callable_of Try.func56 rfl (by kernel_rfl)
@[simp] theorem nt57 : Try.f57.ntmps = 33 := rfl
@[simp] theorem re57 : Try.f57.results.toList = [.tmp 2] := rfl
theorem call57 : Callable Try.prog 57 := callable_of Try.func57 rfl (by kernel_rfl)
@[simp] theorem nt58 : Try.f58.ntmps = 8 := rfl
@[simp] theorem re58 : Try.f58.results.toList = [.tmp 2] := rfl
theorem call58 : Callable Try.prog 58 := callable_of Try.func58 rfl (by kernel_rfl)
@[simp] theorem nt59 : Try.f59.ntmps = 23 := rfl
@[simp] theorem re59 : Try.f59.results.toList = [.tmp 4] := rfl
theorem call59 : Callable Try.prog 59 := callable_of Try.func59 rfl (by kernel_rfl)
@[simp] theorem nt60 : Try.f60.ntmps = 8 := rfl
@[simp] theorem re60 : Try.f60.results.toList = [.tmp 2] := rfl
theorem call60 : Callable Try.prog 60 := callable_of Try.func60 rfl (by kernel_rfl)
@[simp] theorem nt61 : Try.f61.ntmps = 45 := rfl
@[simp] theorem re61 : Try.f61.results.toList = [.tmp 6] := rfl
theorem call61 : Callable Try.prog 61 := callable_of Try.func61 rfl (by kernel_rfl)
@[simp] theorem nt62 : Try.f62.ntmps = 8 := rfl
@[simp] theorem re62 : Try.f62.results.toList = [.tmp 2] := rfl
theorem call62 : Callable Try.prog 62 := callable_of Try.func62 rfl (by kernel_rfl)
@[simp] theorem nt63 : Try.f63.ntmps = 9 := rfl
@[simp] theorem re63 : Try.f63.results.toList = [.tmp 4] := rfl
theorem call63 : Callable Try.prog 63 := callable_of Try.func63 rfl (by kernel_rfl)
@[simp] theorem nt64 : Try.f64.ntmps = 19 := rfl
@[simp] theorem re64 : Try.f64.results.toList = [.tmp 4] := rfl
theorem call64 : Callable Try.prog 64 := callable_of Try.func64 rfl (by kernel_rfl)
@[simp] theorem nt65 : Try.f65.ntmps = 18 := rfl
@[simp] theorem re65 : Try.f65.results.toList = [.cell 4 37, .cell 5 4] := rfl
theorem call65 : Callable Try.prog 65 := callable_of Try.func65 rfl (by kernel_rfl)
@[simp] theorem nt66 : Try.f66.ntmps = 37 := rfl
@[simp] theorem re66 : Try.f66.results.toList = [.tmp 6] := rfl
theorem call66 : Callable Try.prog 66 := callable_of Try.func66 rfl (by kernel_rfl)
@[simp] theorem nt67 : Try.f67.ntmps = 51 := rfl
@[simp] theorem re67 : Try.f67.results.toList = [.tmp 2] := rfl
theorem call67 : Callable Try.prog 67 := callable_of Try.func67 rfl (by kernel_rfl)
@[simp] theorem nt68 : Try.f68.ntmps = 51 := rfl
@[simp] theorem re68 : Try.f68.results.toList = [.tmp 6, .tmp 7] := rfl
theorem call68 : Callable Try.prog 68 := callable_of Try.func68 rfl (by kernel_rfl)
@[simp] theorem nt69 : Try.f69.ntmps = 36 := rfl
@[simp] theorem re69 : Try.f69.results.toList = [] := rfl
theorem call69 : Callable Try.prog 69 := callable_of Try.func69 rfl (by kernel_rfl)
@[simp] theorem nt70 : Try.f70.ntmps = 35 := rfl
@[simp] theorem re70 : Try.f70.results.toList = [.tmp 3] := rfl
theorem call70 : Callable Try.prog 70 := callable_of Try.func70 rfl (by kernel_rfl)
@[simp] theorem nt71 : Try.f71.ntmps = 25 := rfl
@[simp] theorem re71 : Try.f71.results.toList = [.tmp 10] := rfl
theorem call71 : Callable Try.prog 71 := callable_of Try.func71 rfl (by kernel_rfl)
@[simp] theorem nt72 : Try.f72.ntmps = 47 := rfl
@[simp] theorem re72 : Try.f72.results.toList = [.tmp 12] := rfl
theorem call72 : Callable Try.prog 72 := callable_of Try.func72 rfl (by kernel_rfl)
@[simp] theorem nt73 : Try.f73.ntmps = 8 := rfl
@[simp] theorem re73 : Try.f73.results.toList = [.tmp 2] := rfl
theorem call73 : Callable Try.prog 73 := callable_of Try.func73 rfl (by kernel_rfl)
@[simp] theorem nt74 : Try.f74.ntmps = 115 := rfl
@[simp] theorem re74 : Try.f74.results.toList = [.tmp 10] := rfl
theorem call74 : Callable Try.prog 74 := callable_of Try.func74 rfl (by kernel_rfl)
@[simp] theorem nt75 : Try.f75.ntmps = 48 := rfl
@[simp] theorem re75 : Try.f75.results.toList = [.tmp 12] := rfl
theorem call75 : Callable Try.prog 75 := callable_of Try.func75 rfl (by kernel_rfl)
@[simp] theorem nt76 : Try.f76.ntmps = 48 := rfl
@[simp] theorem re76 : Try.f76.results.toList = [.tmp 4] := rfl
theorem call76 : Callable Try.prog 76 := callable_of Try.func76 rfl (by kernel_rfl)
@[simp] theorem nt77 : Try.f77.ntmps = 37 := rfl
@[simp] theorem re77 : Try.f77.results.toList = [.tmp 4] := rfl
theorem call77 : Callable Try.prog 77 := callable_of Try.func77 rfl (by kernel_rfl)
@[simp] theorem nt78 : Try.f78.ntmps = 59 := rfl
@[simp] theorem re78 : Try.f78.results.toList = [.tmp 10] := rfl
theorem call78 : Callable Try.prog 78 := callable_of Try.func78 rfl (by kernel_rfl)
@[simp] theorem nt79 : Try.f79.ntmps = 25 := rfl
@[simp] theorem re79 : Try.f79.results.toList = [.tmp 2] := rfl
theorem call79 : Callable Try.prog 79 := callable_of Try.func79 rfl (by kernel_rfl)
@[simp] theorem nt80 : Try.f80.ntmps = 25 := rfl
@[simp] theorem re80 : Try.f80.results.toList = [.tmp 2] := rfl
theorem call80 : Callable Try.prog 80 := callable_of Try.func80 rfl (by kernel_rfl)
@[simp] theorem nt81 : Try.f81.ntmps = 25 := rfl
@[simp] theorem re81 : Try.f81.results.toList = [.tmp 4] := rfl
theorem call81 : Callable Try.prog 81 := callable_of Try.func81 rfl (by kernel_rfl)
@[simp] theorem nt82 : Try.f82.ntmps = 11 := rfl
@[simp] theorem re82 : Try.f82.results.toList = [] := rfl
theorem call82 : Callable Try.prog 82 := callable_of Try.func82 rfl (by kernel_rfl)
@[simp] theorem nt83 : Try.f83.ntmps = 61 := rfl
@[simp] theorem re83 : Try.f83.results.toList = [.tmp 2] := rfl
theorem call83 : Callable Try.prog 83 := callable_of Try.func83 rfl (by kernel_rfl)
@[simp] theorem nt84 : Try.f84.ntmps = 26 := rfl
@[simp] theorem re84 : Try.f84.results.toList = [.tmp 4] := rfl
theorem call84 : Callable Try.prog 84 := callable_of Try.func84 rfl (by kernel_rfl)
@[simp] theorem nt85 : Try.f85.ntmps = 19 := rfl
@[simp] theorem re85 : Try.f85.results.toList = [.tmp 2] := rfl
theorem call85 : Callable Try.prog 85 := callable_of Try.func85 rfl (by kernel_rfl)
@[simp] theorem nt86 : Try.f86.ntmps = 23 := rfl
@[simp] theorem re86 : Try.f86.results.toList = [.cell 4 114] := rfl
theorem call86 : Callable Try.prog 86 := callable_of Try.func86 rfl (by kernel_rfl)
@[simp] theorem nt87 : Try.f87.ntmps = 69 := rfl
@[simp] theorem re87 : Try.f87.results.toList = [.tmp 6] := rfl
theorem call87 : Callable Try.prog 87 := callable_of Try.func87 rfl (by kernel_rfl)
@[simp] theorem nt88 : Try.f88.ntmps = 19 := rfl
@[simp] theorem re88 : Try.f88.results.toList = [.tmp 4] := rfl
theorem call88 : Callable Try.prog 88 := callable_of Try.func88 rfl (by kernel_rfl)
@[simp] theorem nt89 : Try.f89.ntmps = 82 := rfl
@[simp] theorem re89 : Try.f89.results.toList = [.cell 4 119, .tmp 5] := rfl
theorem call89 : Callable Try.prog 89 := callable_of Try.func89 rfl (by kernel_rfl)
@[simp] theorem nt90 : Try.f90.ntmps = 14 := rfl
@[simp] theorem re90 : Try.f90.results.toList = [] := rfl
theorem call90 : Callable Try.prog 90 := callable_of Try.func90 rfl (by kernel_rfl)
@[simp] theorem nt91 : Try.f91.ntmps = 10 := rfl
@[simp] theorem re91 : Try.f91.results.toList = [.tmp 4] := rfl
theorem call91 : Callable Try.prog 91 := callable_of Try.func91 rfl (by kernel_rfl)
@[simp] theorem nt92 : Try.f92.ntmps = 67 := rfl
@[simp] theorem re92 : Try.f92.results.toList = [.tmp 4, .tmp 5] := rfl
theorem call92 : Callable Try.prog 92 := callable_of Try.func92 rfl (by kernel_rfl)
@[simp] theorem nt93 : Try.f93.ntmps = 32 := rfl
@[simp] theorem re93 : Try.f93.results.toList = [.tmp 4] := rfl
theorem call93 : Callable Try.prog 93 := callable_of Try.func93 rfl (by kernel_rfl)
@[simp] theorem nt94 : Try.f94.ntmps = 9 := rfl
@[simp] theorem re94 : Try.f94.results.toList = [.tmp 4] := rfl
theorem call94 : Callable Try.prog 94 := callable_of Try.func94 rfl (by kernel_rfl)
@[simp] theorem nt95 : Try.f95.ntmps = 6 := rfl
@[simp] theorem re95 : Try.f95.results.toList = [.tmp 2] := rfl
theorem call95 : Callable Try.prog 95 := callable_of Try.func95 rfl (by kernel_rfl)
@[simp] theorem nt96 : Try.f96.ntmps = 42 := rfl
@[simp] theorem re96 : Try.f96.results.toList = [.tmp 3] := rfl
theorem call96 : Callable Try.prog 96 := callable_of Try.func96 rfl (by kernel_rfl)
@[simp] theorem nt97 : Try.f97.ntmps = 21 := rfl
@[simp] theorem re97 : Try.f97.results.toList = [.tmp 2] := rfl
theorem call97 : Callable Try.prog 97 := callable_of Try.func97 rfl (by kernel_rfl)
@[simp] theorem nt98 : Try.f98.ntmps = 35 := rfl
@[simp] theorem re98 : Try.f98.results.toList = [.tmp 2] := rfl
theorem call98 : Callable Try.prog 98 := callable_of Try.func98 rfl (by kernel_rfl)
@[simp] theorem nt99 : Try.f99.ntmps = 18 := rfl
@[simp] theorem re99 : Try.f99.results.toList = [.tmp 4] := rfl
theorem call99 : Callable Try.prog 99 := callable_of Try.func99 rfl (by kernel_rfl)
@[simp] theorem nt100 : Try.f100.ntmps = 19 := rfl
@[simp] theorem re100 : Try.f100.results.toList = [.tmp 4] := rfl
theorem call100 : Callable Try.prog 100 := callable_of Try.func100 rfl (by kernel_rfl)
@[simp] theorem nt101 : Try.f101.ntmps = 11 := rfl
@[simp] theorem re101 : Try.f101.results.toList = [] := rfl
theorem call101 : Callable Try.prog 101 := callable_of Try.func101 rfl (by kernel_rfl)
@[simp] theorem nt102 : Try.f102.ntmps = 18 := rfl
@[simp] theorem re102 : Try.f102.results.toList = [.tmp 6] := rfl
theorem call102 : Callable Try.prog 102 := callable_of Try.func102 rfl (by kernel_rfl)
@[simp] theorem nt103 : Try.f103.ntmps = 9 := rfl
@[simp] theorem re103 : Try.f103.results.toList = [.tmp 4] := rfl
theorem call103 : Callable Try.prog 103 := callable_of Try.func103 rfl (by kernel_rfl)
@[simp] theorem nt104 : Try.f104.ntmps = 6 := rfl
@[simp] theorem re104 : Try.f104.results.toList = [.tmp 2] := rfl
theorem call104 : Callable Try.prog 104 := callable_of Try.func104 rfl (by kernel_rfl)
@[simp] theorem nt105 : Try.f105.ntmps = 42 := rfl
@[simp] theorem re105 : Try.f105.results.toList = [.tmp 4, .tmp 5] := rfl
theorem call105 : Callable Try.prog 105 := callable_of Try.func105 rfl (by kernel_rfl)
@[simp] theorem nt106 : Try.f106.ntmps = 41 := rfl
@[simp] theorem re106 : Try.f106.results.toList = [.tmp 4] := rfl
theorem call106 : Callable Try.prog 106 := callable_of Try.func106 rfl (by kernel_rfl)
@[simp] theorem nt107 : Try.f107.ntmps = 30 := rfl
@[simp] theorem re107 : Try.f107.results.toList = [.tmp 4, .tmp 5] := rfl
theorem call107 : Callable Try.prog 107 := callable_of Try.func107 rfl (by kernel_rfl)
@[simp] theorem nt108 : Try.f108.ntmps = 134 := rfl
@[simp] theorem re108 : Try.f108.results.toList = [] := rfl
theorem call108 : Callable Try.prog 108 := callable_of Try.func108 rfl (by kernel_rfl)
@[simp] theorem nt109 : Try.f109.ntmps = 8 := rfl
@[simp] theorem re109 : Try.f109.results.toList = [.tmp 2] := rfl
theorem call109 : Callable Try.prog 109 := callable_of Try.func109 rfl (by kernel_rfl)
@[simp] theorem nt110 : Try.f110.ntmps = 3 := rfl
@[simp] theorem re110 : Try.f110.results.toList = [.tmp 2] := rfl
theorem call110 : Callable Try.prog 110 := callable_of Try.func110 rfl (by kernel_rfl)
@[simp] theorem nt111 : Try.f111.ntmps = 7 := rfl
@[simp] theorem re111 : Try.f111.results.toList = [.tmp 3] := rfl
theorem call111 : Callable Try.prog 111 := callable_of Try.func111 rfl (by kernel_rfl)
@[simp] theorem nt112 : Try.f112.ntmps = 10 := rfl
@[simp] theorem re112 : Try.f112.results.toList = [.tmp 2] := rfl
theorem call112 : Callable Try.prog 112 := callable_of Try.func112 rfl (by kernel_rfl)
@[simp] theorem nt113 : Try.f113.ntmps = 10 := rfl
@[simp] theorem re113 : Try.f113.results.toList = [.tmp 2] := rfl
theorem call113 : Callable Try.prog 113 := callable_of Try.func113 rfl (by kernel_rfl)
@[simp] theorem nt114 : Try.f114.ntmps = 26 := rfl
@[simp] theorem re114 : Try.f114.results.toList = [.tmp 2] := rfl
theorem call114 : Callable Try.prog 114 := callable_of Try.func114 rfl (by kernel_rfl)
@[simp] theorem nt115 : Try.f115.ntmps = 14 := rfl
@[simp] theorem re115 : Try.f115.results.toList = [.tmp 2] := rfl
theorem call115 : Callable Try.prog 115 := callable_of Try.func115 rfl (by kernel_rfl)
@[simp] theorem nt116 : Try.f116.ntmps = 11 := rfl
@[simp] theorem re116 : Try.f116.results.toList = [.tmp 3] := rfl
theorem call116 : Callable Try.prog 116 := callable_of Try.func116 rfl (by kernel_rfl)
@[simp] theorem nt117 : Try.f117.ntmps = 9 := rfl
@[simp] theorem re117 : Try.f117.results.toList = [.tmp 4] := rfl
theorem call117 : Callable Try.prog 117 := callable_of Try.func117 rfl (by kernel_rfl)
@[simp] theorem nt118 : Try.f118.ntmps = 15 := rfl
@[simp] theorem re118 : Try.f118.results.toList = [.tmp 4] := rfl
theorem call118 : Callable Try.prog 118 := callable_of Try.func118 rfl (by kernel_rfl)
@[simp] theorem nt119 : Try.f119.ntmps = 148 := rfl
@[simp] theorem re119 : Try.f119.results.toList = [] := rfl
theorem call119 : Callable Try.prog 119 := callable_of Try.func119 rfl (by kernel_rfl)
@[simp] theorem nt120 : Try.f120.ntmps = 13 := rfl
@[simp] theorem re120 : Try.f120.results.toList = [.tmp 2] := rfl
theorem call120 : Callable Try.prog 120 := callable_of Try.func120 rfl (by kernel_rfl)
@[simp] theorem nt121 : Try.f121.ntmps = 19 := rfl
@[simp] theorem re121 : Try.f121.results.toList = [.tmp 4] := rfl
theorem call121 : Callable Try.prog 121 := callable_of Try.func121 rfl (by kernel_rfl)
@[simp] theorem nt122 : Try.f122.ntmps = 35 := rfl
@[simp] theorem re122 : Try.f122.results.toList = [.tmp 5] := rfl
theorem call122 : Callable Try.prog 122 := callable_of Try.func122 rfl (by kernel_rfl)
@[simp] theorem nt123 : Try.f123.ntmps = 17 := rfl
@[simp] theorem re123 : Try.f123.results.toList = [.tmp 4, .tmp 5] := rfl
theorem call123 : Callable Try.prog 123 := callable_of Try.func123 rfl (by kernel_rfl)
@[simp] theorem nt124 : Try.f124.ntmps = 51 := rfl
@[simp] theorem re124 : Try.f124.results.toList = [.tmp 4, .tmp 5] := rfl
theorem call124 : Callable Try.prog 124 := callable_of Try.func124 rfl (by kernel_rfl)
@[simp] theorem nt125 : Try.f125.ntmps = 49 := rfl
@[simp] theorem re125 : Try.f125.results.toList = [] := rfl
theorem call125 : Callable Try.prog 125 := callable_of Try.func125 rfl (by kernel_rfl)
@[simp] theorem nt126 : Try.f126.ntmps = 56 := rfl
@[simp] theorem re126 : Try.f126.results.toList = [] := rfl
theorem call126 : Callable Try.prog 126 := callable_of Try.func126 rfl (by kernel_rfl)
@[simp] theorem nt127 : Try.f127.ntmps = 65 := rfl
@[simp] theorem re127 : Try.f127.results.toList = [] := rfl
theorem call127 : Callable Try.prog 127 := callable_of Try.func127 rfl (by kernel_rfl)
@[simp] theorem nt128 : Try.f128.ntmps = 57 := rfl
@[simp] theorem re128 : Try.f128.results.toList = [.tmp 6, .tmp 7] := rfl
theorem call128 : Callable Try.prog 128 := callable_of Try.func128 rfl (by kernel_rfl)
@[simp] theorem nt129 : Try.f129.ntmps = 32 := rfl
@[simp] theorem re129 : Try.f129.results.toList = [] := rfl
theorem call129 : Callable Try.prog 129 := callable_of Try.func129 rfl (by kernel_rfl)
@[simp] theorem nt130 : Try.f130.ntmps = 133 := rfl
@[simp] theorem re130 : Try.f130.results.toList = [.tmp 6] := rfl
theorem call130 : Callable Try.prog 130 := callable_of Try.func130 rfl (by kernel_rfl)
@[simp] theorem nt131 : Try.f131.ntmps = 17 := rfl
@[simp] theorem re131 : Try.f131.results.toList = [.tmp 4] := rfl
theorem call131 : Callable Try.prog 131 := callable_of Try.func131 rfl (by kernel_rfl)
@[simp] theorem nt132 : Try.f132.ntmps = 84 := rfl
@[simp] theorem re132 : Try.f132.results.toList = [.tmp 8] := rfl
theorem call132 : Callable Try.prog 132 := callable_of Try.func132 rfl (by kernel_rfl)
@[simp] theorem nt133 : Try.f133.ntmps = 168 := rfl
@[simp] theorem re133 : Try.f133.results.toList = [.tmp 8, .tmp 9] := rfl
theorem call133 : Callable Try.prog 133 := callable_of Try.func133 rfl (by kernel_rfl)
@[simp] theorem nt134 : Try.f134.ntmps = 19 := rfl
@[simp] theorem re134 : Try.f134.results.toList = [.tmp 2] := rfl
theorem call134 : Callable Try.prog 134 := callable_of Try.func134 rfl (by kernel_rfl)
@[simp] theorem nt135 : Try.f135.ntmps = 25 := rfl
@[simp] theorem re135 : Try.f135.results.toList = [.tmp 2] := rfl
theorem call135 : Callable Try.prog 135 := callable_of Try.func135 rfl (by kernel_rfl)
@[simp] theorem nt136 : Try.f136.ntmps = 19 := rfl
@[simp] theorem re136 : Try.f136.results.toList = [.tmp 4] := rfl
theorem call136 : Callable Try.prog 136 := callable_of Try.func136 rfl (by kernel_rfl)
@[simp] theorem nt137 : Try.f137.ntmps = 53 := rfl
@[simp] theorem re137 : Try.f137.results.toList = [] := rfl
theorem call137 : Callable Try.prog 137 := callable_of Try.func137 rfl (by kernel_rfl)
@[simp] theorem nt138 : Try.f138.ntmps = 60 := rfl
@[simp] theorem re138 : Try.f138.results.toList = [] := rfl
theorem call138 : Callable Try.prog 138 := callable_of Try.func138 rfl (by kernel_rfl)
@[simp] theorem nt139 : Try.f139.ntmps = 67 := rfl
@[simp] theorem re139 : Try.f139.results.toList = [] := rfl
theorem call139 : Callable Try.prog 139 := callable_of Try.func139 rfl (by kernel_rfl)
@[simp] theorem nt140 : Try.f140.ntmps = 63 := rfl
@[simp] theorem re140 : Try.f140.results.toList = [.tmp 8, .tmp 9] := rfl
theorem call140 : Callable Try.prog 140 := callable_of Try.func140 rfl (by kernel_rfl)
@[simp] theorem nt141 : Try.f141.ntmps = 34 := rfl
@[simp] theorem re141 : Try.f141.results.toList = [] := rfl
theorem call141 : Callable Try.prog 141 := callable_of Try.func141 rfl (by kernel_rfl)
@[simp] theorem nt142 : Try.f142.ntmps = 141 := rfl
@[simp] theorem re142 : Try.f142.results.toList = [.tmp 8] := rfl
theorem call142 : Callable Try.prog 142 := callable_of Try.func142 rfl (by kernel_rfl)
@[simp] theorem nt143 : Try.f143.ntmps = 90 := rfl
@[simp] theorem re143 : Try.f143.results.toList = [.tmp 10] := rfl
theorem call143 : Callable Try.prog 143 := callable_of Try.func143 rfl (by kernel_rfl)
@[simp] theorem nt144 : Try.f144.ntmps = 178 := rfl
@[simp] theorem re144 : Try.f144.results.toList = [.tmp 10, .tmp 11] := rfl
theorem call144 : Callable Try.prog 144 := callable_of Try.func144 rfl (by kernel_rfl)
@[simp] theorem nt145 : Try.f145.ntmps = 76 := rfl
@[simp] theorem re145 : Try.f145.results.toList = [] := rfl
theorem call145 : Callable Try.prog 145 := callable_of Try.func145 rfl (by kernel_rfl)
@[simp] theorem nt146 : Try.f146.ntmps = 7 := rfl
@[simp] theorem re146 : Try.f146.results.toList = [.tmp 2] := rfl
theorem call146 : Callable Try.prog 146 := callable_of Try.func146 rfl (by kernel_rfl)
@[simp] theorem nt147 : Try.f147.ntmps = 33 := rfl
@[simp] theorem re147 : Try.f147.results.toList = [.tmp 2] := rfl
theorem call147 : Callable Try.prog 147 := callable_of Try.func147 rfl (by kernel_rfl)
@[simp] theorem nt148 : Try.f148.ntmps = 15 := rfl
@[simp] theorem re148 : Try.f148.results.toList = [.tmp 6] := rfl
theorem call148 : Callable Try.prog 148 := callable_of Try.func148 rfl (by kernel_rfl)
@[simp] theorem nt149 : Try.f149.ntmps = 36 := rfl
@[simp] theorem re149 : Try.f149.results.toList = [.tmp 10] := rfl
theorem call149 : Callable Try.prog 149 := callable_of Try.func149 rfl (by kernel_rfl)
@[simp] theorem nt150 : Try.f150.ntmps = 6 := rfl
@[simp] theorem re150 : Try.f150.results.toList = [.tmp 2] := rfl
theorem call150 : Callable Try.prog 150 := callable_of Try.func150 rfl (by kernel_rfl)
@[simp] theorem nt151 : Try.f151.ntmps = 82 := rfl
@[simp] theorem re151 : Try.f151.results.toList = [] := rfl
theorem call151 : Callable Try.prog 151 := callable_of Try.func151 rfl (by kernel_rfl)
@[simp] theorem nt152 : Try.f152.ntmps = 18 := rfl
@[simp] theorem re152 : Try.f152.results.toList = [.tmp 8] := rfl
theorem call152 : Callable Try.prog 152 := callable_of Try.func152 rfl (by kernel_rfl)
@[simp] theorem nt153 : Try.f153.ntmps = 41 := rfl
@[simp] theorem re153 : Try.f153.results.toList = [.tmp 12] := rfl
theorem call153 : Callable Try.prog 153 := callable_of Try.func153 rfl (by kernel_rfl)
@[simp] theorem nt154 : Try.f154.ntmps = 28 := rfl
@[simp] theorem re154 : Try.f154.results.toList = [.tmp 8, .tmp 9] := rfl
theorem call154 : Callable Try.prog 154 := callable_of Try.func154 rfl (by kernel_rfl)
@[simp] theorem nt155 : Try.f155.ntmps = 32 := rfl
@[simp] theorem re155 : Try.f155.results.toList = [.tmp 10, .tmp 11] := rfl
theorem call155 : Callable Try.prog 155 := callable_of Try.func155 rfl (by kernel_rfl)
end Go.Proofs.Ytmneioafbkknhaa
