import Derived.Test.YtnikonhkbldnnaaGreatDoorProg
import Derived.Test.YtnikonhkbldnnaaGreatDoorPSC
import Derived.KernelRfl
set_option linter.unusedVariables false
set_option linter.unusedSimpArgs false
set_option maxRecDepth 20000
namespace Go.Proofs.YtnikonhkbldnnaaGreatDoor
open Go Go.PS
theorem mixed : Tryz.prog.follows .mixedOrders = true := by kernel_rfl

@[simp] theorem f_sz1 : szT Tryz.prog 1 = some 1 := by kernel_rfl
@[simp] theorem f_ag1 : aggT Tryz.prog 1 = some false := by kernel_rfl
@[simp] theorem f_ib1 : isBoolT Tryz.prog 1 = false := by kernel_rfl
@[simp] theorem f_is1 : isSlT Tryz.prog 1 = false := by kernel_rfl
@[simp] theorem f_by1 : byT Tryz.prog 1 = some 8 := by kernel_rfl
@[simp] theorem f_z1 : zT Tryz.prog 1 = some [.nilFunc] := by kernel_rfl
@[simp] theorem f_sz2 : szT Tryz.prog 2 = some 1 := by kernel_rfl
@[simp] theorem f_ag2 : aggT Tryz.prog 2 = some false := by kernel_rfl
@[simp] theorem f_ib2 : isBoolT Tryz.prog 2 = false := by kernel_rfl
@[simp] theorem f_is2 : isSlT Tryz.prog 2 = false := by kernel_rfl
@[simp] theorem f_by2 : byT Tryz.prog 2 = some 8 := by kernel_rfl
@[simp] theorem f_z2 : zT Tryz.prog 2 = some [.int .i64 0] := by kernel_rfl
@[simp] theorem f_sz3 : szT Tryz.prog 3 = some 1 := by kernel_rfl
@[simp] theorem f_ag3 : aggT Tryz.prog 3 = some false := by kernel_rfl
@[simp] theorem f_ib3 : isBoolT Tryz.prog 3 = false := by kernel_rfl
@[simp] theorem f_is3 : isSlT Tryz.prog 3 = false := by kernel_rfl
@[simp] theorem f_by3 : byT Tryz.prog 3 = some 8 := by kernel_rfl
@[simp] theorem f_z3 : zT Tryz.prog 3 = some [.int .i64 0] := by kernel_rfl
@[simp] theorem f_sz4 : szT Tryz.prog 4 = some 1 := by kernel_rfl
@[simp] theorem f_ag4 : aggT Tryz.prog 4 = some false := by kernel_rfl
@[simp] theorem f_ib4 : isBoolT Tryz.prog 4 = true := by kernel_rfl
@[simp] theorem f_is4 : isSlT Tryz.prog 4 = false := by kernel_rfl
@[simp] theorem f_by4 : byT Tryz.prog 4 = some 1 := by kernel_rfl
@[simp] theorem f_z4 : zT Tryz.prog 4 = some [.bool false] := by kernel_rfl
@[simp] theorem f_sz5 : szT Tryz.prog 5 = some 1 := by kernel_rfl
@[simp] theorem f_ag5 : aggT Tryz.prog 5 = some false := by kernel_rfl
@[simp] theorem f_ib5 : isBoolT Tryz.prog 5 = false := by kernel_rfl
@[simp] theorem f_is5 : isSlT Tryz.prog 5 = false := by kernel_rfl
@[simp] theorem f_by5 : byT Tryz.prog 5 = some 1 := by kernel_rfl
@[simp] theorem f_z5 : zT Tryz.prog 5 = some [.int .u8 0] := by kernel_rfl
@[simp] theorem f_sz6 : szT Tryz.prog 6 = some 1 := by kernel_rfl
@[simp] theorem f_ag6 : aggT Tryz.prog 6 = some false := by kernel_rfl
@[simp] theorem f_ib6 : isBoolT Tryz.prog 6 = false := by kernel_rfl
@[simp] theorem f_is6 : isSlT Tryz.prog 6 = false := by kernel_rfl
@[simp] theorem f_by6 : byT Tryz.prog 6 = some 1 := by kernel_rfl
@[simp] theorem f_z6 : zT Tryz.prog 6 = some [.int .u8 0] := by kernel_rfl
@[simp] theorem f_sz7 : szT Tryz.prog 7 = some 4 := by kernel_rfl
@[simp] theorem f_ag7 : aggT Tryz.prog 7 = some true := by kernel_rfl
@[simp] theorem f_ib7 : isBoolT Tryz.prog 7 = false := by kernel_rfl
@[simp] theorem f_is7 : isSlT Tryz.prog 7 = false := by kernel_rfl
@[simp] theorem f_by7 : byT Tryz.prog 7 = some 24 := by kernel_rfl
@[simp] theorem f_z7 : zT Tryz.prog 7 = some [.int .i64 0, .int .i64 0, .bool false, .int .u8 0] := by kernel_rfl
@[simp] theorem f_ok7 : fldsOk Tryz.prog 7 = true := by kernel_rfl
@[simp] theorem f_fld7_0 : fldT Tryz.prog 7 0 = some (0, 1) := by kernel_rfl
@[simp] theorem f_fldA7_0 : fldA Tryz.prog 7 0 = some false := by kernel_rfl
@[simp] theorem f_pl7_0 : placeT Tryz.prog 7 0 = some (0, 1) := by kernel_rfl
@[simp] theorem f_fld7_1 : fldT Tryz.prog 7 1 = some (1, 1) := by kernel_rfl
@[simp] theorem f_fldA7_1 : fldA Tryz.prog 7 1 = some false := by kernel_rfl
@[simp] theorem f_pl7_1 : placeT Tryz.prog 7 1 = some (1, 1) := by kernel_rfl
@[simp] theorem f_fld7_2 : fldT Tryz.prog 7 2 = some (2, 1) := by kernel_rfl
@[simp] theorem f_fldA7_2 : fldA Tryz.prog 7 2 = some false := by kernel_rfl
@[simp] theorem f_pl7_2 : placeT Tryz.prog 7 2 = some (2, 1) := by kernel_rfl
@[simp] theorem f_fld7_3 : fldT Tryz.prog 7 3 = some (3, 1) := by kernel_rfl
@[simp] theorem f_fldA7_3 : fldA Tryz.prog 7 3 = some false := by kernel_rfl
@[simp] theorem f_pl7_3 : placeT Tryz.prog 7 3 = some (3, 1) := by kernel_rfl
@[simp] theorem f_sz8 : szT Tryz.prog 8 = some 4 := by kernel_rfl
@[simp] theorem f_ag8 : aggT Tryz.prog 8 = some true := by kernel_rfl
@[simp] theorem f_ib8 : isBoolT Tryz.prog 8 = false := by kernel_rfl
@[simp] theorem f_is8 : isSlT Tryz.prog 8 = false := by kernel_rfl
@[simp] theorem f_by8 : byT Tryz.prog 8 = some 24 := by kernel_rfl
@[simp] theorem f_z8 : zT Tryz.prog 8 = some [.int .i64 0, .int .i64 0, .bool false, .int .u8 0] := by kernel_rfl
@[simp] theorem f_ok8 : fldsOk Tryz.prog 8 = true := by kernel_rfl
@[simp] theorem f_fld8_0 : fldT Tryz.prog 8 0 = some (0, 1) := by kernel_rfl
@[simp] theorem f_fldA8_0 : fldA Tryz.prog 8 0 = some false := by kernel_rfl
@[simp] theorem f_pl8_0 : placeT Tryz.prog 8 0 = some (0, 1) := by kernel_rfl
@[simp] theorem f_fld8_1 : fldT Tryz.prog 8 1 = some (1, 1) := by kernel_rfl
@[simp] theorem f_fldA8_1 : fldA Tryz.prog 8 1 = some false := by kernel_rfl
@[simp] theorem f_pl8_1 : placeT Tryz.prog 8 1 = some (1, 1) := by kernel_rfl
@[simp] theorem f_fld8_2 : fldT Tryz.prog 8 2 = some (2, 1) := by kernel_rfl
@[simp] theorem f_fldA8_2 : fldA Tryz.prog 8 2 = some false := by kernel_rfl
@[simp] theorem f_pl8_2 : placeT Tryz.prog 8 2 = some (2, 1) := by kernel_rfl
@[simp] theorem f_fld8_3 : fldT Tryz.prog 8 3 = some (3, 1) := by kernel_rfl
@[simp] theorem f_fldA8_3 : fldA Tryz.prog 8 3 = some false := by kernel_rfl
@[simp] theorem f_pl8_3 : placeT Tryz.prog 8 3 = some (3, 1) := by kernel_rfl
@[simp] theorem f_sz9 : szT Tryz.prog 9 = some 1 := by kernel_rfl
@[simp] theorem f_ag9 : aggT Tryz.prog 9 = some false := by kernel_rfl
@[simp] theorem f_ib9 : isBoolT Tryz.prog 9 = false := by kernel_rfl
@[simp] theorem f_st9 : isStrT Tryz.prog 9 = true := by kernel_rfl
@[simp] theorem f_is9 : isSlT Tryz.prog 9 = false := by kernel_rfl
@[simp] theorem f_by9 : byT Tryz.prog 9 = some 16 := by kernel_rfl
@[simp] theorem f_z9 : zT Tryz.prog 9 = some [.string ByteArray.empty] := by kernel_rfl
@[simp] theorem f_sz10 : szT Tryz.prog 10 = some 1 := by kernel_rfl
@[simp] theorem f_ag10 : aggT Tryz.prog 10 = some false := by kernel_rfl
@[simp] theorem f_ib10 : isBoolT Tryz.prog 10 = false := by kernel_rfl
@[simp] theorem f_st10 : isStrT Tryz.prog 10 = true := by kernel_rfl
@[simp] theorem f_is10 : isSlT Tryz.prog 10 = false := by kernel_rfl
@[simp] theorem f_by10 : byT Tryz.prog 10 = some 16 := by kernel_rfl
@[simp] theorem f_z10 : zT Tryz.prog 10 = some [.string ByteArray.empty] := by kernel_rfl
@[simp] theorem f_sz11 : szT Tryz.prog 11 = some 1 := by kernel_rfl
@[simp] theorem f_ag11 : aggT Tryz.prog 11 = some false := by kernel_rfl
@[simp] theorem f_ib11 : isBoolT Tryz.prog 11 = false := by kernel_rfl
@[simp] theorem f_st11 : isStrT Tryz.prog 11 = true := by kernel_rfl
@[simp] theorem f_is11 : isSlT Tryz.prog 11 = false := by kernel_rfl
@[simp] theorem f_by11 : byT Tryz.prog 11 = some 16 := by kernel_rfl
@[simp] theorem f_z11 : zT Tryz.prog 11 = some [.string ByteArray.empty] := by kernel_rfl
@[simp] theorem f_sz12 : szT Tryz.prog 12 = some 1 := by kernel_rfl
@[simp] theorem f_ag12 : aggT Tryz.prog 12 = some false := by kernel_rfl
@[simp] theorem f_ib12 : isBoolT Tryz.prog 12 = false := by kernel_rfl
@[simp] theorem f_is12 : isSlT Tryz.prog 12 = false := by kernel_rfl
@[simp] theorem f_by12 : byT Tryz.prog 12 = some 8 := by kernel_rfl
@[simp] theorem f_z12 : zT Tryz.prog 12 = some [.int .u64 0] := by kernel_rfl
@[simp] theorem f_sz13 : szT Tryz.prog 13 = some 2 := by kernel_rfl
@[simp] theorem f_ag13 : aggT Tryz.prog 13 = some true := by kernel_rfl
@[simp] theorem f_ib13 : isBoolT Tryz.prog 13 = false := by kernel_rfl
@[simp] theorem f_is13 : isSlT Tryz.prog 13 = false := by kernel_rfl
@[simp] theorem f_by13 : byT Tryz.prog 13 = some 24 := by kernel_rfl
@[simp] theorem f_z13 : zT Tryz.prog 13 = some [.string ByteArray.empty, .int .u64 0] := by kernel_rfl
@[simp] theorem f_ok13 : fldsOk Tryz.prog 13 = true := by kernel_rfl
@[simp] theorem f_fld13_0 : fldT Tryz.prog 13 0 = some (0, 1) := by kernel_rfl
@[simp] theorem f_fldA13_0 : fldA Tryz.prog 13 0 = some false := by kernel_rfl
@[simp] theorem f_pl13_0 : placeT Tryz.prog 13 0 = some (0, 1) := by kernel_rfl
@[simp] theorem f_fld13_1 : fldT Tryz.prog 13 1 = some (1, 1) := by kernel_rfl
@[simp] theorem f_fldA13_1 : fldA Tryz.prog 13 1 = some false := by kernel_rfl
@[simp] theorem f_pl13_1 : placeT Tryz.prog 13 1 = some (1, 1) := by kernel_rfl
@[simp] theorem f_sz14 : szT Tryz.prog 14 = some 2 := by kernel_rfl
@[simp] theorem f_ag14 : aggT Tryz.prog 14 = some true := by kernel_rfl
@[simp] theorem f_ib14 : isBoolT Tryz.prog 14 = false := by kernel_rfl
@[simp] theorem f_is14 : isSlT Tryz.prog 14 = false := by kernel_rfl
@[simp] theorem f_by14 : byT Tryz.prog 14 = some 24 := by kernel_rfl
@[simp] theorem f_z14 : zT Tryz.prog 14 = some [.string ByteArray.empty, .int .u64 0] := by kernel_rfl
@[simp] theorem f_ok14 : fldsOk Tryz.prog 14 = true := by kernel_rfl
@[simp] theorem f_fld14_0 : fldT Tryz.prog 14 0 = some (0, 1) := by kernel_rfl
@[simp] theorem f_fldA14_0 : fldA Tryz.prog 14 0 = some false := by kernel_rfl
@[simp] theorem f_pl14_0 : placeT Tryz.prog 14 0 = some (0, 1) := by kernel_rfl
@[simp] theorem f_fld14_1 : fldT Tryz.prog 14 1 = some (1, 1) := by kernel_rfl
@[simp] theorem f_fldA14_1 : fldA Tryz.prog 14 1 = some false := by kernel_rfl
@[simp] theorem f_pl14_1 : placeT Tryz.prog 14 1 = some (1, 1) := by kernel_rfl
@[simp] theorem f_sz15 : szT Tryz.prog 15 = some 1 := by kernel_rfl
@[simp] theorem f_ag15 : aggT Tryz.prog 15 = some false := by kernel_rfl
@[simp] theorem f_ib15 : isBoolT Tryz.prog 15 = false := by kernel_rfl
@[simp] theorem f_is15 : isSlT Tryz.prog 15 = false := by kernel_rfl
@[simp] theorem f_by15 : byT Tryz.prog 15 = some 8 := by kernel_rfl
@[simp] theorem f_z15 : zT Tryz.prog 15 = some [.pointer none] := by kernel_rfl
@[simp] theorem f_sz16 : szT Tryz.prog 16 = some 1 := by kernel_rfl
@[simp] theorem f_ag16 : aggT Tryz.prog 16 = some false := by kernel_rfl
@[simp] theorem f_ib16 : isBoolT Tryz.prog 16 = false := by kernel_rfl
@[simp] theorem f_is16 : isSlT Tryz.prog 16 = false := by kernel_rfl
@[simp] theorem f_by16 : byT Tryz.prog 16 = some 8 := by kernel_rfl
@[simp] theorem f_z16 : zT Tryz.prog 16 = some [.pointer none] := by kernel_rfl
@[simp] theorem f_sz17 : szT Tryz.prog 17 = some 1 := by kernel_rfl
@[simp] theorem f_ag17 : aggT Tryz.prog 17 = some false := by kernel_rfl
@[simp] theorem f_ib17 : isBoolT Tryz.prog 17 = false := by kernel_rfl
@[simp] theorem f_is17 : isSlT Tryz.prog 17 = false := by kernel_rfl
@[simp] theorem f_by17 : byT Tryz.prog 17 = some 8 := by kernel_rfl
@[simp] theorem f_z17 : zT Tryz.prog 17 = some [.pointer none] := by kernel_rfl
@[simp] theorem f_sz18 : szT Tryz.prog 18 = some 1 := by kernel_rfl
@[simp] theorem f_ag18 : aggT Tryz.prog 18 = some true := by kernel_rfl
@[simp] theorem f_ib18 : isBoolT Tryz.prog 18 = false := by kernel_rfl
@[simp] theorem f_is18 : isSlT Tryz.prog 18 = false := by kernel_rfl
@[simp] theorem f_by18 : byT Tryz.prog 18 = some 8 := by kernel_rfl
@[simp] theorem f_z18 : zT Tryz.prog 18 = some [.pointer none] := by kernel_rfl
@[simp] theorem f_ok18 : fldsOk Tryz.prog 18 = true := by kernel_rfl
@[simp] theorem f_fld18_0 : fldT Tryz.prog 18 0 = some (0, 1) := by kernel_rfl
@[simp] theorem f_fldA18_0 : fldA Tryz.prog 18 0 = some false := by kernel_rfl
@[simp] theorem f_pl18_0 : placeT Tryz.prog 18 0 = some (0, 1) := by kernel_rfl
@[simp] theorem f_sz19 : szT Tryz.prog 19 = some 1 := by kernel_rfl
@[simp] theorem f_ag19 : aggT Tryz.prog 19 = some true := by kernel_rfl
@[simp] theorem f_ib19 : isBoolT Tryz.prog 19 = false := by kernel_rfl
@[simp] theorem f_is19 : isSlT Tryz.prog 19 = false := by kernel_rfl
@[simp] theorem f_by19 : byT Tryz.prog 19 = some 8 := by kernel_rfl
@[simp] theorem f_z19 : zT Tryz.prog 19 = some [.pointer none] := by kernel_rfl
@[simp] theorem f_ok19 : fldsOk Tryz.prog 19 = true := by kernel_rfl
@[simp] theorem f_fld19_0 : fldT Tryz.prog 19 0 = some (0, 1) := by kernel_rfl
@[simp] theorem f_fldA19_0 : fldA Tryz.prog 19 0 = some false := by kernel_rfl
@[simp] theorem f_pl19_0 : placeT Tryz.prog 19 0 = some (0, 1) := by kernel_rfl
@[simp] theorem f_sz21 : szT Tryz.prog 21 = some 1 := by kernel_rfl
@[simp] theorem f_ag21 : aggT Tryz.prog 21 = some false := by kernel_rfl
@[simp] theorem f_ib21 : isBoolT Tryz.prog 21 = false := by kernel_rfl
@[simp] theorem f_is21 : isSlT Tryz.prog 21 = false := by kernel_rfl
@[simp] theorem f_by21 : byT Tryz.prog 21 = some 4 := by kernel_rfl
@[simp] theorem f_z21 : zT Tryz.prog 21 = some [.int .i32 0] := by kernel_rfl
@[simp] theorem f_sz22 : szT Tryz.prog 22 = some 1 := by kernel_rfl
@[simp] theorem f_ag22 : aggT Tryz.prog 22 = some false := by kernel_rfl
@[simp] theorem f_ib22 : isBoolT Tryz.prog 22 = false := by kernel_rfl
@[simp] theorem f_is22 : isSlT Tryz.prog 22 = true := by kernel_rfl
@[simp] theorem f_by22 : byT Tryz.prog 22 = some 24 := by kernel_rfl
@[simp] theorem f_z22 : zT Tryz.prog 22 = some [.slice none 0 0] := by kernel_rfl
@[simp] theorem f_sl22 : slT Tryz.prog 22 = some 1 := by kernel_rfl
@[simp] theorem f_el22 : elT Tryz.prog 22 = some 3 := by kernel_rfl
@[simp] theorem f_sz23 : szT Tryz.prog 23 = some 1 := by kernel_rfl
@[simp] theorem f_ag23 : aggT Tryz.prog 23 = some false := by kernel_rfl
@[simp] theorem f_ib23 : isBoolT Tryz.prog 23 = false := by kernel_rfl
@[simp] theorem f_is23 : isSlT Tryz.prog 23 = true := by kernel_rfl
@[simp] theorem f_by23 : byT Tryz.prog 23 = some 24 := by kernel_rfl
@[simp] theorem f_z23 : zT Tryz.prog 23 = some [.slice none 0 0] := by kernel_rfl
@[simp] theorem f_sl23 : slT Tryz.prog 23 = some 1 := by kernel_rfl
@[simp] theorem f_el23 : elT Tryz.prog 23 = some 3 := by kernel_rfl
@[simp] theorem f_sz24 : szT Tryz.prog 24 = some 1 := by kernel_rfl
@[simp] theorem f_ag24 : aggT Tryz.prog 24 = some false := by kernel_rfl
@[simp] theorem f_ib24 : isBoolT Tryz.prog 24 = false := by kernel_rfl
@[simp] theorem f_is24 : isSlT Tryz.prog 24 = true := by kernel_rfl
@[simp] theorem f_by24 : byT Tryz.prog 24 = some 24 := by kernel_rfl
@[simp] theorem f_z24 : zT Tryz.prog 24 = some [.slice none 0 0] := by kernel_rfl
@[simp] theorem f_sl24 : slT Tryz.prog 24 = some 1 := by kernel_rfl
@[simp] theorem f_el24 : elT Tryz.prog 24 = some 73 := by kernel_rfl
@[simp] theorem f_sz25 : szT Tryz.prog 25 = some 1 := by kernel_rfl
@[simp] theorem f_ag25 : aggT Tryz.prog 25 = some false := by kernel_rfl
@[simp] theorem f_ib25 : isBoolT Tryz.prog 25 = false := by kernel_rfl
@[simp] theorem f_is25 : isSlT Tryz.prog 25 = false := by kernel_rfl
@[simp] theorem f_by25 : byT Tryz.prog 25 = some 8 := by kernel_rfl
@[simp] theorem f_z25 : zT Tryz.prog 25 = some [.int .i64 0] := by kernel_rfl
@[simp] theorem f_sz27 : szT Tryz.prog 27 = some 1 := by kernel_rfl
@[simp] theorem f_ag27 : aggT Tryz.prog 27 = some false := by kernel_rfl
@[simp] theorem f_ib27 : isBoolT Tryz.prog 27 = false := by kernel_rfl
@[simp] theorem f_is27 : isSlT Tryz.prog 27 = false := by kernel_rfl
@[simp] theorem f_by27 : byT Tryz.prog 27 = some 8 := by kernel_rfl
@[simp] theorem f_z27 : zT Tryz.prog 27 = some [.nilFunc] := by kernel_rfl
@[simp] theorem f_sz28 : szT Tryz.prog 28 = some 1 := by kernel_rfl
@[simp] theorem f_ag28 : aggT Tryz.prog 28 = some false := by kernel_rfl
@[simp] theorem f_ib28 : isBoolT Tryz.prog 28 = false := by kernel_rfl
@[simp] theorem f_is28 : isSlT Tryz.prog 28 = false := by kernel_rfl
@[simp] theorem f_by28 : byT Tryz.prog 28 = some 8 := by kernel_rfl
@[simp] theorem f_z28 : zT Tryz.prog 28 = some [.nilFunc] := by kernel_rfl
@[simp] theorem f_sz30 : szT Tryz.prog 30 = some 1 := by kernel_rfl
@[simp] theorem f_ag30 : aggT Tryz.prog 30 = some false := by kernel_rfl
@[simp] theorem f_ib30 : isBoolT Tryz.prog 30 = false := by kernel_rfl
@[simp] theorem f_is30 : isSlT Tryz.prog 30 = false := by kernel_rfl
@[simp] theorem f_by30 : byT Tryz.prog 30 = some 8 := by kernel_rfl
@[simp] theorem f_z30 : zT Tryz.prog 30 = some [.nilFunc] := by kernel_rfl
@[simp] theorem f_sz31 : szT Tryz.prog 31 = some 1 := by kernel_rfl
@[simp] theorem f_ag31 : aggT Tryz.prog 31 = some false := by kernel_rfl
@[simp] theorem f_ib31 : isBoolT Tryz.prog 31 = false := by kernel_rfl
@[simp] theorem f_is31 : isSlT Tryz.prog 31 = false := by kernel_rfl
@[simp] theorem f_by31 : byT Tryz.prog 31 = some 8 := by kernel_rfl
@[simp] theorem f_z31 : zT Tryz.prog 31 = some [.nilFunc] := by kernel_rfl
@[simp] theorem f_sz32 : szT Tryz.prog 32 = some 1 := by kernel_rfl
@[simp] theorem f_ag32 : aggT Tryz.prog 32 = some false := by kernel_rfl
@[simp] theorem f_ib32 : isBoolT Tryz.prog 32 = false := by kernel_rfl
@[simp] theorem f_is32 : isSlT Tryz.prog 32 = false := by kernel_rfl
@[simp] theorem f_by32 : byT Tryz.prog 32 = some 8 := by kernel_rfl
@[simp] theorem f_z32 : zT Tryz.prog 32 = some [.nilFunc] := by kernel_rfl
@[simp] theorem f_sz33 : szT Tryz.prog 33 = some 1 := by kernel_rfl
@[simp] theorem f_ag33 : aggT Tryz.prog 33 = some false := by kernel_rfl
@[simp] theorem f_ib33 : isBoolT Tryz.prog 33 = false := by kernel_rfl
@[simp] theorem f_is33 : isSlT Tryz.prog 33 = false := by kernel_rfl
@[simp] theorem f_by33 : byT Tryz.prog 33 = some 8 := by kernel_rfl
@[simp] theorem f_z33 : zT Tryz.prog 33 = some [.nilFunc] := by kernel_rfl
@[simp] theorem f_sz34 : szT Tryz.prog 34 = some 1 := by kernel_rfl
@[simp] theorem f_ag34 : aggT Tryz.prog 34 = some false := by kernel_rfl
@[simp] theorem f_ib34 : isBoolT Tryz.prog 34 = false := by kernel_rfl
@[simp] theorem f_is34 : isSlT Tryz.prog 34 = false := by kernel_rfl
@[simp] theorem f_by34 : byT Tryz.prog 34 = some 8 := by kernel_rfl
@[simp] theorem f_z34 : zT Tryz.prog 34 = some [.nilFunc] := by kernel_rfl
@[simp] theorem f_sz35 : szT Tryz.prog 35 = some 1 := by kernel_rfl
@[simp] theorem f_ag35 : aggT Tryz.prog 35 = some false := by kernel_rfl
@[simp] theorem f_ib35 : isBoolT Tryz.prog 35 = false := by kernel_rfl
@[simp] theorem f_is35 : isSlT Tryz.prog 35 = true := by kernel_rfl
@[simp] theorem f_by35 : byT Tryz.prog 35 = some 24 := by kernel_rfl
@[simp] theorem f_z35 : zT Tryz.prog 35 = some [.slice none 0 0] := by kernel_rfl
@[simp] theorem f_sl35 : slT Tryz.prog 35 = some 4 := by kernel_rfl
@[simp] theorem f_el35 : elT Tryz.prog 35 = some 37 := by kernel_rfl
@[simp] theorem f_sz36 : szT Tryz.prog 36 = some 4 := by kernel_rfl
@[simp] theorem f_ag36 : aggT Tryz.prog 36 = some true := by kernel_rfl
@[simp] theorem f_ib36 : isBoolT Tryz.prog 36 = false := by kernel_rfl
@[simp] theorem f_is36 : isSlT Tryz.prog 36 = false := by kernel_rfl
@[simp] theorem f_by36 : byT Tryz.prog 36 = some 56 := by kernel_rfl
@[simp] theorem f_z36 : zT Tryz.prog 36 = some [.string ByteArray.empty, .int .i64 0, .int .i64 0, .slice none 0 0] := by kernel_rfl
@[simp] theorem f_ok36 : fldsOk Tryz.prog 36 = true := by kernel_rfl
@[simp] theorem f_fld36_0 : fldT Tryz.prog 36 0 = some (0, 1) := by kernel_rfl
@[simp] theorem f_fldA36_0 : fldA Tryz.prog 36 0 = some false := by kernel_rfl
@[simp] theorem f_pl36_0 : placeT Tryz.prog 36 0 = some (0, 1) := by kernel_rfl
@[simp] theorem f_fld36_1 : fldT Tryz.prog 36 1 = some (1, 1) := by kernel_rfl
@[simp] theorem f_fldA36_1 : fldA Tryz.prog 36 1 = some false := by kernel_rfl
@[simp] theorem f_pl36_1 : placeT Tryz.prog 36 1 = some (1, 1) := by kernel_rfl
@[simp] theorem f_fld36_2 : fldT Tryz.prog 36 2 = some (2, 1) := by kernel_rfl
@[simp] theorem f_fldA36_2 : fldA Tryz.prog 36 2 = some false := by kernel_rfl
@[simp] theorem f_pl36_2 : placeT Tryz.prog 36 2 = some (2, 1) := by kernel_rfl
@[simp] theorem f_fld36_3 : fldT Tryz.prog 36 3 = some (3, 1) := by kernel_rfl
@[simp] theorem f_fldA36_3 : fldA Tryz.prog 36 3 = some false := by kernel_rfl
@[simp] theorem f_pl36_3 : placeT Tryz.prog 36 3 = some (3, 1) := by kernel_rfl
@[simp] theorem f_sz37 : szT Tryz.prog 37 = some 4 := by kernel_rfl
@[simp] theorem f_ag37 : aggT Tryz.prog 37 = some true := by kernel_rfl
@[simp] theorem f_ib37 : isBoolT Tryz.prog 37 = false := by kernel_rfl
@[simp] theorem f_is37 : isSlT Tryz.prog 37 = false := by kernel_rfl
@[simp] theorem f_by37 : byT Tryz.prog 37 = some 56 := by kernel_rfl
@[simp] theorem f_z37 : zT Tryz.prog 37 = some [.string ByteArray.empty, .int .i64 0, .int .i64 0, .slice none 0 0] := by kernel_rfl
@[simp] theorem f_ok37 : fldsOk Tryz.prog 37 = true := by kernel_rfl
@[simp] theorem f_fld37_0 : fldT Tryz.prog 37 0 = some (0, 1) := by kernel_rfl
@[simp] theorem f_fldA37_0 : fldA Tryz.prog 37 0 = some false := by kernel_rfl
@[simp] theorem f_pl37_0 : placeT Tryz.prog 37 0 = some (0, 1) := by kernel_rfl
@[simp] theorem f_fld37_1 : fldT Tryz.prog 37 1 = some (1, 1) := by kernel_rfl
@[simp] theorem f_fldA37_1 : fldA Tryz.prog 37 1 = some false := by kernel_rfl
@[simp] theorem f_pl37_1 : placeT Tryz.prog 37 1 = some (1, 1) := by kernel_rfl
@[simp] theorem f_fld37_2 : fldT Tryz.prog 37 2 = some (2, 1) := by kernel_rfl
@[simp] theorem f_fldA37_2 : fldA Tryz.prog 37 2 = some false := by kernel_rfl
@[simp] theorem f_pl37_2 : placeT Tryz.prog 37 2 = some (2, 1) := by kernel_rfl
@[simp] theorem f_fld37_3 : fldT Tryz.prog 37 3 = some (3, 1) := by kernel_rfl
@[simp] theorem f_fldA37_3 : fldA Tryz.prog 37 3 = some false := by kernel_rfl
@[simp] theorem f_pl37_3 : placeT Tryz.prog 37 3 = some (3, 1) := by kernel_rfl
@[simp] theorem f_sz39 : szT Tryz.prog 39 = some 1 := by kernel_rfl
@[simp] theorem f_ag39 : aggT Tryz.prog 39 = some false := by kernel_rfl
@[simp] theorem f_ib39 : isBoolT Tryz.prog 39 = false := by kernel_rfl
@[simp] theorem f_is39 : isSlT Tryz.prog 39 = false := by kernel_rfl
@[simp] theorem f_by39 : byT Tryz.prog 39 = some 8 := by kernel_rfl
@[simp] theorem f_z39 : zT Tryz.prog 39 = some [.nilFunc] := by kernel_rfl
@[simp] theorem f_sz40 : szT Tryz.prog 40 = some 1 := by kernel_rfl
@[simp] theorem f_ag40 : aggT Tryz.prog 40 = some false := by kernel_rfl
@[simp] theorem f_ib40 : isBoolT Tryz.prog 40 = false := by kernel_rfl
@[simp] theorem f_is40 : isSlT Tryz.prog 40 = false := by kernel_rfl
@[simp] theorem f_by40 : byT Tryz.prog 40 = some 8 := by kernel_rfl
@[simp] theorem f_z40 : zT Tryz.prog 40 = some [.nilFunc] := by kernel_rfl
@[simp] theorem f_sz41 : szT Tryz.prog 41 = some 1 := by kernel_rfl
@[simp] theorem f_ag41 : aggT Tryz.prog 41 = some false := by kernel_rfl
@[simp] theorem f_ib41 : isBoolT Tryz.prog 41 = false := by kernel_rfl
@[simp] theorem f_is41 : isSlT Tryz.prog 41 = false := by kernel_rfl
@[simp] theorem f_by41 : byT Tryz.prog 41 = some 8 := by kernel_rfl
@[simp] theorem f_z41 : zT Tryz.prog 41 = some [.nilFunc] := by kernel_rfl
@[simp] theorem f_sz42 : szT Tryz.prog 42 = some 1 := by kernel_rfl
@[simp] theorem f_ag42 : aggT Tryz.prog 42 = some false := by kernel_rfl
@[simp] theorem f_ib42 : isBoolT Tryz.prog 42 = false := by kernel_rfl
@[simp] theorem f_is42 : isSlT Tryz.prog 42 = true := by kernel_rfl
@[simp] theorem f_by42 : byT Tryz.prog 42 = some 24 := by kernel_rfl
@[simp] theorem f_z42 : zT Tryz.prog 42 = some [.slice none 0 0] := by kernel_rfl
@[simp] theorem f_sl42 : slT Tryz.prog 42 = some 4 := by kernel_rfl
@[simp] theorem f_el42 : elT Tryz.prog 42 = some 44 := by kernel_rfl
@[simp] theorem f_sz43 : szT Tryz.prog 43 = some 4 := by kernel_rfl
@[simp] theorem f_ag43 : aggT Tryz.prog 43 = some true := by kernel_rfl
@[simp] theorem f_ib43 : isBoolT Tryz.prog 43 = false := by kernel_rfl
@[simp] theorem f_is43 : isSlT Tryz.prog 43 = false := by kernel_rfl
@[simp] theorem f_by43 : byT Tryz.prog 43 = some 56 := by kernel_rfl
@[simp] theorem f_z43 : zT Tryz.prog 43 = some [.string ByteArray.empty, .int .i64 0, .int .i64 0, .slice none 0 0] := by kernel_rfl
@[simp] theorem f_ok43 : fldsOk Tryz.prog 43 = true := by kernel_rfl
@[simp] theorem f_fld43_0 : fldT Tryz.prog 43 0 = some (0, 1) := by kernel_rfl
@[simp] theorem f_fldA43_0 : fldA Tryz.prog 43 0 = some false := by kernel_rfl
@[simp] theorem f_pl43_0 : placeT Tryz.prog 43 0 = some (0, 1) := by kernel_rfl
@[simp] theorem f_fld43_1 : fldT Tryz.prog 43 1 = some (1, 1) := by kernel_rfl
@[simp] theorem f_fldA43_1 : fldA Tryz.prog 43 1 = some false := by kernel_rfl
@[simp] theorem f_pl43_1 : placeT Tryz.prog 43 1 = some (1, 1) := by kernel_rfl
@[simp] theorem f_fld43_2 : fldT Tryz.prog 43 2 = some (2, 1) := by kernel_rfl
@[simp] theorem f_fldA43_2 : fldA Tryz.prog 43 2 = some false := by kernel_rfl
@[simp] theorem f_pl43_2 : placeT Tryz.prog 43 2 = some (2, 1) := by kernel_rfl
@[simp] theorem f_fld43_3 : fldT Tryz.prog 43 3 = some (3, 1) := by kernel_rfl
@[simp] theorem f_fldA43_3 : fldA Tryz.prog 43 3 = some false := by kernel_rfl
@[simp] theorem f_pl43_3 : placeT Tryz.prog 43 3 = some (3, 1) := by kernel_rfl
@[simp] theorem f_sz44 : szT Tryz.prog 44 = some 4 := by kernel_rfl
@[simp] theorem f_ag44 : aggT Tryz.prog 44 = some true := by kernel_rfl
@[simp] theorem f_ib44 : isBoolT Tryz.prog 44 = false := by kernel_rfl
@[simp] theorem f_is44 : isSlT Tryz.prog 44 = false := by kernel_rfl
@[simp] theorem f_by44 : byT Tryz.prog 44 = some 56 := by kernel_rfl
@[simp] theorem f_z44 : zT Tryz.prog 44 = some [.string ByteArray.empty, .int .i64 0, .int .i64 0, .slice none 0 0] := by kernel_rfl
@[simp] theorem f_ok44 : fldsOk Tryz.prog 44 = true := by kernel_rfl
@[simp] theorem f_fld44_0 : fldT Tryz.prog 44 0 = some (0, 1) := by kernel_rfl
@[simp] theorem f_fldA44_0 : fldA Tryz.prog 44 0 = some false := by kernel_rfl
@[simp] theorem f_pl44_0 : placeT Tryz.prog 44 0 = some (0, 1) := by kernel_rfl
@[simp] theorem f_fld44_1 : fldT Tryz.prog 44 1 = some (1, 1) := by kernel_rfl
@[simp] theorem f_fldA44_1 : fldA Tryz.prog 44 1 = some false := by kernel_rfl
@[simp] theorem f_pl44_1 : placeT Tryz.prog 44 1 = some (1, 1) := by kernel_rfl
@[simp] theorem f_fld44_2 : fldT Tryz.prog 44 2 = some (2, 1) := by kernel_rfl
@[simp] theorem f_fldA44_2 : fldA Tryz.prog 44 2 = some false := by kernel_rfl
@[simp] theorem f_pl44_2 : placeT Tryz.prog 44 2 = some (2, 1) := by kernel_rfl
@[simp] theorem f_fld44_3 : fldT Tryz.prog 44 3 = some (3, 1) := by kernel_rfl
@[simp] theorem f_fldA44_3 : fldA Tryz.prog 44 3 = some false := by kernel_rfl
@[simp] theorem f_pl44_3 : placeT Tryz.prog 44 3 = some (3, 1) := by kernel_rfl
@[simp] theorem f_sz45 : szT Tryz.prog 45 = some 1 := by kernel_rfl
@[simp] theorem f_ag45 : aggT Tryz.prog 45 = some false := by kernel_rfl
@[simp] theorem f_ib45 : isBoolT Tryz.prog 45 = false := by kernel_rfl
@[simp] theorem f_is45 : isSlT Tryz.prog 45 = false := by kernel_rfl
@[simp] theorem f_by45 : byT Tryz.prog 45 = some 8 := by kernel_rfl
@[simp] theorem f_z45 : zT Tryz.prog 45 = some [.nilFunc] := by kernel_rfl
@[simp] theorem f_sz46 : szT Tryz.prog 46 = some 1 := by kernel_rfl
@[simp] theorem f_ag46 : aggT Tryz.prog 46 = some false := by kernel_rfl
@[simp] theorem f_ib46 : isBoolT Tryz.prog 46 = false := by kernel_rfl
@[simp] theorem f_is46 : isSlT Tryz.prog 46 = false := by kernel_rfl
@[simp] theorem f_by46 : byT Tryz.prog 46 = some 8 := by kernel_rfl
@[simp] theorem f_z46 : zT Tryz.prog 46 = some [.nilFunc] := by kernel_rfl
@[simp] theorem f_sz47 : szT Tryz.prog 47 = some 1 := by kernel_rfl
@[simp] theorem f_ag47 : aggT Tryz.prog 47 = some false := by kernel_rfl
@[simp] theorem f_ib47 : isBoolT Tryz.prog 47 = false := by kernel_rfl
@[simp] theorem f_is47 : isSlT Tryz.prog 47 = false := by kernel_rfl
@[simp] theorem f_by47 : byT Tryz.prog 47 = some 8 := by kernel_rfl
@[simp] theorem f_z47 : zT Tryz.prog 47 = some [.nilFunc] := by kernel_rfl
@[simp] theorem f_sz48 : szT Tryz.prog 48 = some 1 := by kernel_rfl
@[simp] theorem f_ag48 : aggT Tryz.prog 48 = some false := by kernel_rfl
@[simp] theorem f_ib48 : isBoolT Tryz.prog 48 = false := by kernel_rfl
@[simp] theorem f_is48 : isSlT Tryz.prog 48 = false := by kernel_rfl
@[simp] theorem f_by48 : byT Tryz.prog 48 = some 8 := by kernel_rfl
@[simp] theorem f_z48 : zT Tryz.prog 48 = some [.nilFunc] := by kernel_rfl
@[simp] theorem f_sz49 : szT Tryz.prog 49 = some 1 := by kernel_rfl
@[simp] theorem f_ag49 : aggT Tryz.prog 49 = some false := by kernel_rfl
@[simp] theorem f_ib49 : isBoolT Tryz.prog 49 = false := by kernel_rfl
@[simp] theorem f_is49 : isSlT Tryz.prog 49 = false := by kernel_rfl
@[simp] theorem f_by49 : byT Tryz.prog 49 = some 8 := by kernel_rfl
@[simp] theorem f_z49 : zT Tryz.prog 49 = some [.nilFunc] := by kernel_rfl
@[simp] theorem f_sz50 : szT Tryz.prog 50 = some 1 := by kernel_rfl
@[simp] theorem f_ag50 : aggT Tryz.prog 50 = some false := by kernel_rfl
@[simp] theorem f_ib50 : isBoolT Tryz.prog 50 = false := by kernel_rfl
@[simp] theorem f_is50 : isSlT Tryz.prog 50 = false := by kernel_rfl
@[simp] theorem f_by50 : byT Tryz.prog 50 = some 8 := by kernel_rfl
@[simp] theorem f_z50 : zT Tryz.prog 50 = some [.nilFunc] := by kernel_rfl
@[simp] theorem f_sz52 : szT Tryz.prog 52 = some 1 := by kernel_rfl
@[simp] theorem f_ag52 : aggT Tryz.prog 52 = some false := by kernel_rfl
@[simp] theorem f_ib52 : isBoolT Tryz.prog 52 = false := by kernel_rfl
@[simp] theorem f_is52 : isSlT Tryz.prog 52 = false := by kernel_rfl
@[simp] theorem f_by52 : byT Tryz.prog 52 = some 8 := by kernel_rfl
@[simp] theorem f_z52 : zT Tryz.prog 52 = some [.nilFunc] := by kernel_rfl
@[simp] theorem f_sz54 : szT Tryz.prog 54 = some 1 := by kernel_rfl
@[simp] theorem f_ag54 : aggT Tryz.prog 54 = some false := by kernel_rfl
@[simp] theorem f_ib54 : isBoolT Tryz.prog 54 = false := by kernel_rfl
@[simp] theorem f_is54 : isSlT Tryz.prog 54 = false := by kernel_rfl
@[simp] theorem f_by54 : byT Tryz.prog 54 = some 8 := by kernel_rfl
@[simp] theorem f_z54 : zT Tryz.prog 54 = some [.nilFunc] := by kernel_rfl
@[simp] theorem f_sz55 : szT Tryz.prog 55 = some 1 := by kernel_rfl
@[simp] theorem f_ag55 : aggT Tryz.prog 55 = some false := by kernel_rfl
@[simp] theorem f_ib55 : isBoolT Tryz.prog 55 = false := by kernel_rfl
@[simp] theorem f_is55 : isSlT Tryz.prog 55 = false := by kernel_rfl
@[simp] theorem f_by55 : byT Tryz.prog 55 = some 8 := by kernel_rfl
@[simp] theorem f_z55 : zT Tryz.prog 55 = some [.nilFunc] := by kernel_rfl
@[simp] theorem f_sz56 : szT Tryz.prog 56 = some 1 := by kernel_rfl
@[simp] theorem f_ag56 : aggT Tryz.prog 56 = some false := by kernel_rfl
@[simp] theorem f_ib56 : isBoolT Tryz.prog 56 = false := by kernel_rfl
@[simp] theorem f_is56 : isSlT Tryz.prog 56 = false := by kernel_rfl
@[simp] theorem f_by56 : byT Tryz.prog 56 = some 8 := by kernel_rfl
@[simp] theorem f_z56 : zT Tryz.prog 56 = some [.nilFunc] := by kernel_rfl
@[simp] theorem f_sz57 : szT Tryz.prog 57 = some 1 := by kernel_rfl
@[simp] theorem f_ag57 : aggT Tryz.prog 57 = some false := by kernel_rfl
@[simp] theorem f_ib57 : isBoolT Tryz.prog 57 = false := by kernel_rfl
@[simp] theorem f_is57 : isSlT Tryz.prog 57 = false := by kernel_rfl
@[simp] theorem f_by57 : byT Tryz.prog 57 = some 8 := by kernel_rfl
@[simp] theorem f_z57 : zT Tryz.prog 57 = some [.nilFunc] := by kernel_rfl
@[simp] theorem f_sz58 : szT Tryz.prog 58 = some 1 := by kernel_rfl
@[simp] theorem f_ag58 : aggT Tryz.prog 58 = some false := by kernel_rfl
@[simp] theorem f_ib58 : isBoolT Tryz.prog 58 = false := by kernel_rfl
@[simp] theorem f_is58 : isSlT Tryz.prog 58 = false := by kernel_rfl
@[simp] theorem f_by58 : byT Tryz.prog 58 = some 8 := by kernel_rfl
@[simp] theorem f_z58 : zT Tryz.prog 58 = some [.nilFunc] := by kernel_rfl
@[simp] theorem f_sz60 : szT Tryz.prog 60 = some 1 := by kernel_rfl
@[simp] theorem f_ag60 : aggT Tryz.prog 60 = some false := by kernel_rfl
@[simp] theorem f_ib60 : isBoolT Tryz.prog 60 = false := by kernel_rfl
@[simp] theorem f_is60 : isSlT Tryz.prog 60 = false := by kernel_rfl
@[simp] theorem f_by60 : byT Tryz.prog 60 = some 8 := by kernel_rfl
@[simp] theorem f_z60 : zT Tryz.prog 60 = some [.nilFunc] := by kernel_rfl
@[simp] theorem f_sz61 : szT Tryz.prog 61 = some 1 := by kernel_rfl
@[simp] theorem f_ag61 : aggT Tryz.prog 61 = some false := by kernel_rfl
@[simp] theorem f_ib61 : isBoolT Tryz.prog 61 = false := by kernel_rfl
@[simp] theorem f_is61 : isSlT Tryz.prog 61 = false := by kernel_rfl
@[simp] theorem f_by61 : byT Tryz.prog 61 = some 8 := by kernel_rfl
@[simp] theorem f_z61 : zT Tryz.prog 61 = some [.nilFunc] := by kernel_rfl
@[simp] theorem f_sz63 : szT Tryz.prog 63 = some 1 := by kernel_rfl
@[simp] theorem f_ag63 : aggT Tryz.prog 63 = some false := by kernel_rfl
@[simp] theorem f_ib63 : isBoolT Tryz.prog 63 = false := by kernel_rfl
@[simp] theorem f_is63 : isSlT Tryz.prog 63 = false := by kernel_rfl
@[simp] theorem f_by63 : byT Tryz.prog 63 = some 8 := by kernel_rfl
@[simp] theorem f_z63 : zT Tryz.prog 63 = some [.nilFunc] := by kernel_rfl
@[simp] theorem f_sz64 : szT Tryz.prog 64 = some 1 := by kernel_rfl
@[simp] theorem f_ag64 : aggT Tryz.prog 64 = some false := by kernel_rfl
@[simp] theorem f_ib64 : isBoolT Tryz.prog 64 = false := by kernel_rfl
@[simp] theorem f_is64 : isSlT Tryz.prog 64 = false := by kernel_rfl
@[simp] theorem f_by64 : byT Tryz.prog 64 = some 8 := by kernel_rfl
@[simp] theorem f_z64 : zT Tryz.prog 64 = some [.nilFunc] := by kernel_rfl
@[simp] theorem f_sz65 : szT Tryz.prog 65 = some 1 := by kernel_rfl
@[simp] theorem f_ag65 : aggT Tryz.prog 65 = some false := by kernel_rfl
@[simp] theorem f_ib65 : isBoolT Tryz.prog 65 = false := by kernel_rfl
@[simp] theorem f_is65 : isSlT Tryz.prog 65 = false := by kernel_rfl
@[simp] theorem f_by65 : byT Tryz.prog 65 = some 8 := by kernel_rfl
@[simp] theorem f_z65 : zT Tryz.prog 65 = some [.nilFunc] := by kernel_rfl
@[simp] theorem f_sz66 : szT Tryz.prog 66 = some 1 := by kernel_rfl
@[simp] theorem f_ag66 : aggT Tryz.prog 66 = some false := by kernel_rfl
@[simp] theorem f_ib66 : isBoolT Tryz.prog 66 = false := by kernel_rfl
@[simp] theorem f_is66 : isSlT Tryz.prog 66 = true := by kernel_rfl
@[simp] theorem f_by66 : byT Tryz.prog 66 = some 24 := by kernel_rfl
@[simp] theorem f_z66 : zT Tryz.prog 66 = some [.slice none 0 0] := by kernel_rfl
@[simp] theorem f_sl66 : slT Tryz.prog 66 = some 1 := by kernel_rfl
@[simp] theorem f_el66 : elT Tryz.prog 66 = some 3 := by kernel_rfl
@[simp] theorem f_sz68 : szT Tryz.prog 68 = some 1 := by kernel_rfl
@[simp] theorem f_ag68 : aggT Tryz.prog 68 = some false := by kernel_rfl
@[simp] theorem f_ib68 : isBoolT Tryz.prog 68 = false := by kernel_rfl
@[simp] theorem f_is68 : isSlT Tryz.prog 68 = false := by kernel_rfl
@[simp] theorem f_by68 : byT Tryz.prog 68 = some 8 := by kernel_rfl
@[simp] theorem f_z68 : zT Tryz.prog 68 = some [.nilFunc] := by kernel_rfl
@[simp] theorem f_sz70 : szT Tryz.prog 70 = some 1 := by kernel_rfl
@[simp] theorem f_ag70 : aggT Tryz.prog 70 = some false := by kernel_rfl
@[simp] theorem f_ib70 : isBoolT Tryz.prog 70 = false := by kernel_rfl
@[simp] theorem f_is70 : isSlT Tryz.prog 70 = false := by kernel_rfl
@[simp] theorem f_by70 : byT Tryz.prog 70 = some 8 := by kernel_rfl
@[simp] theorem f_z70 : zT Tryz.prog 70 = some [.nilFunc] := by kernel_rfl
@[simp] theorem f_sz71 : szT Tryz.prog 71 = some 1 := by kernel_rfl
@[simp] theorem f_ag71 : aggT Tryz.prog 71 = some false := by kernel_rfl
@[simp] theorem f_ib71 : isBoolT Tryz.prog 71 = false := by kernel_rfl
@[simp] theorem f_is71 : isSlT Tryz.prog 71 = false := by kernel_rfl
@[simp] theorem f_by71 : byT Tryz.prog 71 = some 8 := by kernel_rfl
@[simp] theorem f_z71 : zT Tryz.prog 71 = some [.nilFunc] := by kernel_rfl
@[simp] theorem f_sz72 : szT Tryz.prog 72 = some 1 := by kernel_rfl
@[simp] theorem f_ag72 : aggT Tryz.prog 72 = some false := by kernel_rfl
@[simp] theorem f_ib72 : isBoolT Tryz.prog 72 = false := by kernel_rfl
@[simp] theorem f_is72 : isSlT Tryz.prog 72 = false := by kernel_rfl
@[simp] theorem f_by72 : byT Tryz.prog 72 = some 8 := by kernel_rfl
@[simp] theorem f_z72 : zT Tryz.prog 72 = some [.nilFunc] := by kernel_rfl
@[simp] theorem f_sz73 : szT Tryz.prog 73 = some 1 := by kernel_rfl
@[simp] theorem f_ag73 : aggT Tryz.prog 73 = some false := by kernel_rfl
@[simp] theorem f_ib73 : isBoolT Tryz.prog 73 = false := by kernel_rfl
@[simp] theorem f_is73 : isSlT Tryz.prog 73 = true := by kernel_rfl
@[simp] theorem f_by73 : byT Tryz.prog 73 = some 24 := by kernel_rfl
@[simp] theorem f_z73 : zT Tryz.prog 73 = some [.slice none 0 0] := by kernel_rfl
@[simp] theorem f_sl73 : slT Tryz.prog 73 = some 2 := by kernel_rfl
@[simp] theorem f_el73 : elT Tryz.prog 73 = some 75 := by kernel_rfl
@[simp] theorem f_sz74 : szT Tryz.prog 74 = some 2 := by kernel_rfl
@[simp] theorem f_ag74 : aggT Tryz.prog 74 = some true := by kernel_rfl
@[simp] theorem f_ib74 : isBoolT Tryz.prog 74 = false := by kernel_rfl
@[simp] theorem f_is74 : isSlT Tryz.prog 74 = false := by kernel_rfl
@[simp] theorem f_by74 : byT Tryz.prog 74 = some 16 := by kernel_rfl
@[simp] theorem f_z74 : zT Tryz.prog 74 = some [.int .i64 0, .int .i64 0] := by kernel_rfl
@[simp] theorem f_ok74 : fldsOk Tryz.prog 74 = true := by kernel_rfl
@[simp] theorem f_fld74_0 : fldT Tryz.prog 74 0 = some (0, 1) := by kernel_rfl
@[simp] theorem f_fldA74_0 : fldA Tryz.prog 74 0 = some false := by kernel_rfl
@[simp] theorem f_pl74_0 : placeT Tryz.prog 74 0 = some (0, 1) := by kernel_rfl
@[simp] theorem f_fld74_1 : fldT Tryz.prog 74 1 = some (1, 1) := by kernel_rfl
@[simp] theorem f_fldA74_1 : fldA Tryz.prog 74 1 = some false := by kernel_rfl
@[simp] theorem f_pl74_1 : placeT Tryz.prog 74 1 = some (1, 1) := by kernel_rfl
@[simp] theorem f_sz75 : szT Tryz.prog 75 = some 2 := by kernel_rfl
@[simp] theorem f_ag75 : aggT Tryz.prog 75 = some true := by kernel_rfl
@[simp] theorem f_ib75 : isBoolT Tryz.prog 75 = false := by kernel_rfl
@[simp] theorem f_is75 : isSlT Tryz.prog 75 = false := by kernel_rfl
@[simp] theorem f_by75 : byT Tryz.prog 75 = some 16 := by kernel_rfl
@[simp] theorem f_z75 : zT Tryz.prog 75 = some [.int .i64 0, .int .i64 0] := by kernel_rfl
@[simp] theorem f_ok75 : fldsOk Tryz.prog 75 = true := by kernel_rfl
@[simp] theorem f_fld75_0 : fldT Tryz.prog 75 0 = some (0, 1) := by kernel_rfl
@[simp] theorem f_fldA75_0 : fldA Tryz.prog 75 0 = some false := by kernel_rfl
@[simp] theorem f_pl75_0 : placeT Tryz.prog 75 0 = some (0, 1) := by kernel_rfl
@[simp] theorem f_fld75_1 : fldT Tryz.prog 75 1 = some (1, 1) := by kernel_rfl
@[simp] theorem f_fldA75_1 : fldA Tryz.prog 75 1 = some false := by kernel_rfl
@[simp] theorem f_pl75_1 : placeT Tryz.prog 75 1 = some (1, 1) := by kernel_rfl
@[simp] theorem f_sz76 : szT Tryz.prog 76 = some 3 := by kernel_rfl
@[simp] theorem f_ag76 : aggT Tryz.prog 76 = some true := by kernel_rfl
@[simp] theorem f_ib76 : isBoolT Tryz.prog 76 = false := by kernel_rfl
@[simp] theorem f_is76 : isSlT Tryz.prog 76 = false := by kernel_rfl
@[simp] theorem f_by76 : byT Tryz.prog 76 = some 72 := by kernel_rfl
@[simp] theorem f_z76 : zT Tryz.prog 76 = some [.slice none 0 0, .slice none 0 0, .slice none 0 0] := by kernel_rfl
@[simp] theorem f_ok76 : fldsOk Tryz.prog 76 = true := by kernel_rfl
@[simp] theorem f_fld76_0 : fldT Tryz.prog 76 0 = some (0, 1) := by kernel_rfl
@[simp] theorem f_fldA76_0 : fldA Tryz.prog 76 0 = some false := by kernel_rfl
@[simp] theorem f_pl76_0 : placeT Tryz.prog 76 0 = some (0, 1) := by kernel_rfl
@[simp] theorem f_fld76_1 : fldT Tryz.prog 76 1 = some (1, 1) := by kernel_rfl
@[simp] theorem f_fldA76_1 : fldA Tryz.prog 76 1 = some false := by kernel_rfl
@[simp] theorem f_pl76_1 : placeT Tryz.prog 76 1 = some (1, 1) := by kernel_rfl
@[simp] theorem f_fld76_2 : fldT Tryz.prog 76 2 = some (2, 1) := by kernel_rfl
@[simp] theorem f_fldA76_2 : fldA Tryz.prog 76 2 = some false := by kernel_rfl
@[simp] theorem f_pl76_2 : placeT Tryz.prog 76 2 = some (2, 1) := by kernel_rfl
@[simp] theorem f_sz77 : szT Tryz.prog 77 = some 3 := by kernel_rfl
@[simp] theorem f_ag77 : aggT Tryz.prog 77 = some true := by kernel_rfl
@[simp] theorem f_ib77 : isBoolT Tryz.prog 77 = false := by kernel_rfl
@[simp] theorem f_is77 : isSlT Tryz.prog 77 = false := by kernel_rfl
@[simp] theorem f_by77 : byT Tryz.prog 77 = some 72 := by kernel_rfl
@[simp] theorem f_z77 : zT Tryz.prog 77 = some [.slice none 0 0, .slice none 0 0, .slice none 0 0] := by kernel_rfl
@[simp] theorem f_ok77 : fldsOk Tryz.prog 77 = true := by kernel_rfl
@[simp] theorem f_fld77_0 : fldT Tryz.prog 77 0 = some (0, 1) := by kernel_rfl
@[simp] theorem f_fldA77_0 : fldA Tryz.prog 77 0 = some false := by kernel_rfl
@[simp] theorem f_pl77_0 : placeT Tryz.prog 77 0 = some (0, 1) := by kernel_rfl
@[simp] theorem f_fld77_1 : fldT Tryz.prog 77 1 = some (1, 1) := by kernel_rfl
@[simp] theorem f_fldA77_1 : fldA Tryz.prog 77 1 = some false := by kernel_rfl
@[simp] theorem f_pl77_1 : placeT Tryz.prog 77 1 = some (1, 1) := by kernel_rfl
@[simp] theorem f_fld77_2 : fldT Tryz.prog 77 2 = some (2, 1) := by kernel_rfl
@[simp] theorem f_fldA77_2 : fldA Tryz.prog 77 2 = some false := by kernel_rfl
@[simp] theorem f_pl77_2 : placeT Tryz.prog 77 2 = some (2, 1) := by kernel_rfl
@[simp] theorem f_sz78 : szT Tryz.prog 78 = some 1 := by kernel_rfl
@[simp] theorem f_ag78 : aggT Tryz.prog 78 = some false := by kernel_rfl
@[simp] theorem f_ib78 : isBoolT Tryz.prog 78 = false := by kernel_rfl
@[simp] theorem f_is78 : isSlT Tryz.prog 78 = false := by kernel_rfl
@[simp] theorem f_by78 : byT Tryz.prog 78 = some 8 := by kernel_rfl
@[simp] theorem f_z78 : zT Tryz.prog 78 = some [.nilFunc] := by kernel_rfl
@[simp] theorem f_sz79 : szT Tryz.prog 79 = some 1 := by kernel_rfl
@[simp] theorem f_ag79 : aggT Tryz.prog 79 = some false := by kernel_rfl
@[simp] theorem f_ib79 : isBoolT Tryz.prog 79 = false := by kernel_rfl
@[simp] theorem f_is79 : isSlT Tryz.prog 79 = false := by kernel_rfl
@[simp] theorem f_by79 : byT Tryz.prog 79 = some 8 := by kernel_rfl
@[simp] theorem f_z79 : zT Tryz.prog 79 = some [.nilFunc] := by kernel_rfl
@[simp] theorem f_sz80 : szT Tryz.prog 80 = some 1 := by kernel_rfl
@[simp] theorem f_ag80 : aggT Tryz.prog 80 = some false := by kernel_rfl
@[simp] theorem f_ib80 : isBoolT Tryz.prog 80 = false := by kernel_rfl
@[simp] theorem f_is80 : isSlT Tryz.prog 80 = false := by kernel_rfl
@[simp] theorem f_by80 : byT Tryz.prog 80 = some 8 := by kernel_rfl
@[simp] theorem f_z80 : zT Tryz.prog 80 = some [.nilFunc] := by kernel_rfl
@[simp] theorem f_sz81 : szT Tryz.prog 81 = some 1 := by kernel_rfl
@[simp] theorem f_ag81 : aggT Tryz.prog 81 = some false := by kernel_rfl
@[simp] theorem f_ib81 : isBoolT Tryz.prog 81 = false := by kernel_rfl
@[simp] theorem f_is81 : isSlT Tryz.prog 81 = false := by kernel_rfl
@[simp] theorem f_by81 : byT Tryz.prog 81 = some 8 := by kernel_rfl
@[simp] theorem f_z81 : zT Tryz.prog 81 = some [.nilFunc] := by kernel_rfl
@[simp] theorem f_sz83 : szT Tryz.prog 83 = some 1 := by kernel_rfl
@[simp] theorem f_ag83 : aggT Tryz.prog 83 = some false := by kernel_rfl
@[simp] theorem f_ib83 : isBoolT Tryz.prog 83 = false := by kernel_rfl
@[simp] theorem f_is83 : isSlT Tryz.prog 83 = false := by kernel_rfl
@[simp] theorem f_by83 : byT Tryz.prog 83 = some 8 := by kernel_rfl
@[simp] theorem f_z83 : zT Tryz.prog 83 = some [.nilFunc] := by kernel_rfl
@[simp] theorem f_sz84 : szT Tryz.prog 84 = some 1 := by kernel_rfl
@[simp] theorem f_ag84 : aggT Tryz.prog 84 = some false := by kernel_rfl
@[simp] theorem f_ib84 : isBoolT Tryz.prog 84 = false := by kernel_rfl
@[simp] theorem f_is84 : isSlT Tryz.prog 84 = false := by kernel_rfl
@[simp] theorem f_by84 : byT Tryz.prog 84 = some 8 := by kernel_rfl
@[simp] theorem f_z84 : zT Tryz.prog 84 = some [.nilFunc] := by kernel_rfl
@[simp] theorem f_sz85 : szT Tryz.prog 85 = some 12 := by kernel_rfl
@[simp] theorem f_ag85 : aggT Tryz.prog 85 = some true := by kernel_rfl
@[simp] theorem f_ib85 : isBoolT Tryz.prog 85 = false := by kernel_rfl
@[simp] theorem f_is85 : isSlT Tryz.prog 85 = false := by kernel_rfl
@[simp] theorem f_z85 : zT Tryz.prog 85 = some (List.replicate 12 (.int .i64 0)) := by kernel_rfl
@[simp] theorem f_ar85 : arT Tryz.prog 85 = some (12, 1) := by kernel_rfl
@[simp] theorem f_arA85 : arA Tryz.prog 85 = some false := by kernel_rfl
@[simp] theorem f_ok85 : fldsOk Tryz.prog 85 = true := by kernel_rfl
@[simp] theorem f_sz86 : szT Tryz.prog 86 = some 1 := by kernel_rfl
@[simp] theorem f_ag86 : aggT Tryz.prog 86 = some false := by kernel_rfl
@[simp] theorem f_ib86 : isBoolT Tryz.prog 86 = false := by kernel_rfl
@[simp] theorem f_is86 : isSlT Tryz.prog 86 = false := by kernel_rfl
@[simp] theorem f_by86 : byT Tryz.prog 86 = some 8 := by kernel_rfl
@[simp] theorem f_z86 : zT Tryz.prog 86 = some [.nilFunc] := by kernel_rfl
@[simp] theorem f_sz88 : szT Tryz.prog 88 = some 1 := by kernel_rfl
@[simp] theorem f_ag88 : aggT Tryz.prog 88 = some false := by kernel_rfl
@[simp] theorem f_ib88 : isBoolT Tryz.prog 88 = false := by kernel_rfl
@[simp] theorem f_is88 : isSlT Tryz.prog 88 = false := by kernel_rfl
@[simp] theorem f_by88 : byT Tryz.prog 88 = some 8 := by kernel_rfl
@[simp] theorem f_z88 : zT Tryz.prog 88 = some [.nilFunc] := by kernel_rfl
@[simp] theorem f_sz89 : szT Tryz.prog 89 = some 2 := by kernel_rfl
@[simp] theorem f_ag89 : aggT Tryz.prog 89 = some true := by kernel_rfl
@[simp] theorem f_ib89 : isBoolT Tryz.prog 89 = false := by kernel_rfl
@[simp] theorem f_is89 : isSlT Tryz.prog 89 = false := by kernel_rfl
@[simp] theorem f_by89 : byT Tryz.prog 89 = some 48 := by kernel_rfl
@[simp] theorem f_z89 : zT Tryz.prog 89 = some [.slice none 0 0, .slice none 0 0] := by kernel_rfl
@[simp] theorem f_ok89 : fldsOk Tryz.prog 89 = true := by kernel_rfl
@[simp] theorem f_fld89_0 : fldT Tryz.prog 89 0 = some (0, 1) := by kernel_rfl
@[simp] theorem f_fldA89_0 : fldA Tryz.prog 89 0 = some false := by kernel_rfl
@[simp] theorem f_pl89_0 : placeT Tryz.prog 89 0 = some (0, 1) := by kernel_rfl
@[simp] theorem f_fld89_1 : fldT Tryz.prog 89 1 = some (1, 1) := by kernel_rfl
@[simp] theorem f_fldA89_1 : fldA Tryz.prog 89 1 = some false := by kernel_rfl
@[simp] theorem f_pl89_1 : placeT Tryz.prog 89 1 = some (1, 1) := by kernel_rfl
@[simp] theorem f_sz90 : szT Tryz.prog 90 = some 2 := by kernel_rfl
@[simp] theorem f_ag90 : aggT Tryz.prog 90 = some true := by kernel_rfl
@[simp] theorem f_ib90 : isBoolT Tryz.prog 90 = false := by kernel_rfl
@[simp] theorem f_is90 : isSlT Tryz.prog 90 = false := by kernel_rfl
@[simp] theorem f_by90 : byT Tryz.prog 90 = some 48 := by kernel_rfl
@[simp] theorem f_z90 : zT Tryz.prog 90 = some [.slice none 0 0, .slice none 0 0] := by kernel_rfl
@[simp] theorem f_ok90 : fldsOk Tryz.prog 90 = true := by kernel_rfl
@[simp] theorem f_fld90_0 : fldT Tryz.prog 90 0 = some (0, 1) := by kernel_rfl
@[simp] theorem f_fldA90_0 : fldA Tryz.prog 90 0 = some false := by kernel_rfl
@[simp] theorem f_pl90_0 : placeT Tryz.prog 90 0 = some (0, 1) := by kernel_rfl
@[simp] theorem f_fld90_1 : fldT Tryz.prog 90 1 = some (1, 1) := by kernel_rfl
@[simp] theorem f_fldA90_1 : fldA Tryz.prog 90 1 = some false := by kernel_rfl
@[simp] theorem f_pl90_1 : placeT Tryz.prog 90 1 = some (1, 1) := by kernel_rfl
@[simp] theorem f_sz91 : szT Tryz.prog 91 = some 1 := by kernel_rfl
@[simp] theorem f_ag91 : aggT Tryz.prog 91 = some false := by kernel_rfl
@[simp] theorem f_ib91 : isBoolT Tryz.prog 91 = false := by kernel_rfl
@[simp] theorem f_is91 : isSlT Tryz.prog 91 = false := by kernel_rfl
@[simp] theorem f_by91 : byT Tryz.prog 91 = some 8 := by kernel_rfl
@[simp] theorem f_z91 : zT Tryz.prog 91 = some [.nilFunc] := by kernel_rfl
@[simp] theorem f_sz92 : szT Tryz.prog 92 = some 1 := by kernel_rfl
@[simp] theorem f_ag92 : aggT Tryz.prog 92 = some false := by kernel_rfl
@[simp] theorem f_ib92 : isBoolT Tryz.prog 92 = false := by kernel_rfl
@[simp] theorem f_is92 : isSlT Tryz.prog 92 = false := by kernel_rfl
@[simp] theorem f_by92 : byT Tryz.prog 92 = some 8 := by kernel_rfl
@[simp] theorem f_z92 : zT Tryz.prog 92 = some [.pointer none] := by kernel_rfl
@[simp] theorem f_sz93 : szT Tryz.prog 93 = some 1 := by kernel_rfl
@[simp] theorem f_ag93 : aggT Tryz.prog 93 = some false := by kernel_rfl
@[simp] theorem f_ib93 : isBoolT Tryz.prog 93 = false := by kernel_rfl
@[simp] theorem f_is93 : isSlT Tryz.prog 93 = false := by kernel_rfl
@[simp] theorem f_by93 : byT Tryz.prog 93 = some 8 := by kernel_rfl
@[simp] theorem f_z93 : zT Tryz.prog 93 = some [.nilFunc] := by kernel_rfl
@[simp] theorem f_sz94 : szT Tryz.prog 94 = some 1 := by kernel_rfl
@[simp] theorem f_ag94 : aggT Tryz.prog 94 = some false := by kernel_rfl
@[simp] theorem f_ib94 : isBoolT Tryz.prog 94 = false := by kernel_rfl
@[simp] theorem f_is94 : isSlT Tryz.prog 94 = true := by kernel_rfl
@[simp] theorem f_by94 : byT Tryz.prog 94 = some 24 := by kernel_rfl
@[simp] theorem f_z94 : zT Tryz.prog 94 = some [.slice none 0 0] := by kernel_rfl
@[simp] theorem f_sl94 : slT Tryz.prog 94 = some 1 := by kernel_rfl
@[simp] theorem f_el94 : elT Tryz.prog 94 = some 4 := by kernel_rfl
@[simp] theorem f_sz95 : szT Tryz.prog 95 = some 1 := by kernel_rfl
@[simp] theorem f_ag95 : aggT Tryz.prog 95 = some false := by kernel_rfl
@[simp] theorem f_ib95 : isBoolT Tryz.prog 95 = false := by kernel_rfl
@[simp] theorem f_is95 : isSlT Tryz.prog 95 = false := by kernel_rfl
@[simp] theorem f_by95 : byT Tryz.prog 95 = some 8 := by kernel_rfl
@[simp] theorem f_z95 : zT Tryz.prog 95 = some [.nilFunc] := by kernel_rfl
@[simp] theorem f_sz96 : szT Tryz.prog 96 = some 1 := by kernel_rfl
@[simp] theorem f_ag96 : aggT Tryz.prog 96 = some false := by kernel_rfl
@[simp] theorem f_ib96 : isBoolT Tryz.prog 96 = false := by kernel_rfl
@[simp] theorem f_is96 : isSlT Tryz.prog 96 = false := by kernel_rfl
@[simp] theorem f_by96 : byT Tryz.prog 96 = some 8 := by kernel_rfl
@[simp] theorem f_z96 : zT Tryz.prog 96 = some [.nilFunc] := by kernel_rfl
@[simp] theorem f_sz97 : szT Tryz.prog 97 = some 1 := by kernel_rfl
@[simp] theorem f_ag97 : aggT Tryz.prog 97 = some false := by kernel_rfl
@[simp] theorem f_ib97 : isBoolT Tryz.prog 97 = false := by kernel_rfl
@[simp] theorem f_is97 : isSlT Tryz.prog 97 = false := by kernel_rfl
@[simp] theorem f_by97 : byT Tryz.prog 97 = some 8 := by kernel_rfl
@[simp] theorem f_z97 : zT Tryz.prog 97 = some [.nilFunc] := by kernel_rfl
@[simp] theorem f_sz98 : szT Tryz.prog 98 = some 1 := by kernel_rfl
@[simp] theorem f_ag98 : aggT Tryz.prog 98 = some false := by kernel_rfl
@[simp] theorem f_ib98 : isBoolT Tryz.prog 98 = false := by kernel_rfl
@[simp] theorem f_is98 : isSlT Tryz.prog 98 = false := by kernel_rfl
@[simp] theorem f_by98 : byT Tryz.prog 98 = some 8 := by kernel_rfl
@[simp] theorem f_z98 : zT Tryz.prog 98 = some [.nilFunc] := by kernel_rfl
@[simp] theorem f_sz99 : szT Tryz.prog 99 = some 1 := by kernel_rfl
@[simp] theorem f_ag99 : aggT Tryz.prog 99 = some false := by kernel_rfl
@[simp] theorem f_ib99 : isBoolT Tryz.prog 99 = false := by kernel_rfl
@[simp] theorem f_is99 : isSlT Tryz.prog 99 = false := by kernel_rfl
@[simp] theorem f_by99 : byT Tryz.prog 99 = some 8 := by kernel_rfl
@[simp] theorem f_z99 : zT Tryz.prog 99 = some [.nilFunc] := by kernel_rfl
@[simp] theorem f_sz100 : szT Tryz.prog 100 = some 1 := by kernel_rfl
@[simp] theorem f_ag100 : aggT Tryz.prog 100 = some false := by kernel_rfl
@[simp] theorem f_ib100 : isBoolT Tryz.prog 100 = false := by kernel_rfl
@[simp] theorem f_is100 : isSlT Tryz.prog 100 = false := by kernel_rfl
@[simp] theorem f_by100 : byT Tryz.prog 100 = some 8 := by kernel_rfl
@[simp] theorem f_z100 : zT Tryz.prog 100 = some [.nilFunc] := by kernel_rfl
@[simp] theorem f_sz101 : szT Tryz.prog 101 = some 1 := by kernel_rfl
@[simp] theorem f_ag101 : aggT Tryz.prog 101 = some false := by kernel_rfl
@[simp] theorem f_ib101 : isBoolT Tryz.prog 101 = false := by kernel_rfl
@[simp] theorem f_is101 : isSlT Tryz.prog 101 = false := by kernel_rfl
@[simp] theorem f_by101 : byT Tryz.prog 101 = some 8 := by kernel_rfl
@[simp] theorem f_z101 : zT Tryz.prog 101 = some [.nilFunc] := by kernel_rfl
@[simp] theorem f_sz102 : szT Tryz.prog 102 = some 1 := by kernel_rfl
@[simp] theorem f_ag102 : aggT Tryz.prog 102 = some false := by kernel_rfl
@[simp] theorem f_ib102 : isBoolT Tryz.prog 102 = false := by kernel_rfl
@[simp] theorem f_is102 : isSlT Tryz.prog 102 = false := by kernel_rfl
@[simp] theorem f_by102 : byT Tryz.prog 102 = some 8 := by kernel_rfl
@[simp] theorem f_z102 : zT Tryz.prog 102 = some [.nilFunc] := by kernel_rfl
@[simp] theorem f_sz103 : szT Tryz.prog 103 = some 1 := by kernel_rfl
@[simp] theorem f_ag103 : aggT Tryz.prog 103 = some false := by kernel_rfl
@[simp] theorem f_ib103 : isBoolT Tryz.prog 103 = false := by kernel_rfl
@[simp] theorem f_is103 : isSlT Tryz.prog 103 = false := by kernel_rfl
@[simp] theorem f_by103 : byT Tryz.prog 103 = some 8 := by kernel_rfl
@[simp] theorem f_z103 : zT Tryz.prog 103 = some [.nilFunc] := by kernel_rfl
@[simp] theorem f_sz104 : szT Tryz.prog 104 = some 1 := by kernel_rfl
@[simp] theorem f_ag104 : aggT Tryz.prog 104 = some false := by kernel_rfl
@[simp] theorem f_ib104 : isBoolT Tryz.prog 104 = false := by kernel_rfl
@[simp] theorem f_is104 : isSlT Tryz.prog 104 = false := by kernel_rfl
@[simp] theorem f_by104 : byT Tryz.prog 104 = some 8 := by kernel_rfl
@[simp] theorem f_z104 : zT Tryz.prog 104 = some [.nilFunc] := by kernel_rfl
@[simp] theorem f_sz106 : szT Tryz.prog 106 = some 1 := by kernel_rfl
@[simp] theorem f_ag106 : aggT Tryz.prog 106 = some false := by kernel_rfl
@[simp] theorem f_ib106 : isBoolT Tryz.prog 106 = false := by kernel_rfl
@[simp] theorem f_is106 : isSlT Tryz.prog 106 = false := by kernel_rfl
@[simp] theorem f_by106 : byT Tryz.prog 106 = some 8 := by kernel_rfl
@[simp] theorem f_z106 : zT Tryz.prog 106 = some [.nilFunc] := by kernel_rfl
@[simp] theorem f_sz107 : szT Tryz.prog 107 = some 1 := by kernel_rfl
@[simp] theorem f_ag107 : aggT Tryz.prog 107 = some false := by kernel_rfl
@[simp] theorem f_ib107 : isBoolT Tryz.prog 107 = false := by kernel_rfl
@[simp] theorem f_is107 : isSlT Tryz.prog 107 = true := by kernel_rfl
@[simp] theorem f_by107 : byT Tryz.prog 107 = some 24 := by kernel_rfl
@[simp] theorem f_z107 : zT Tryz.prog 107 = some [.slice none 0 0] := by kernel_rfl
@[simp] theorem f_sl107 : slT Tryz.prog 107 = some 1 := by kernel_rfl
@[simp] theorem f_el107 : elT Tryz.prog 107 = some 4 := by kernel_rfl
@[simp] theorem f_sz108 : szT Tryz.prog 108 = some 1 := by kernel_rfl
@[simp] theorem f_ag108 : aggT Tryz.prog 108 = some false := by kernel_rfl
@[simp] theorem f_ib108 : isBoolT Tryz.prog 108 = false := by kernel_rfl
@[simp] theorem f_is108 : isSlT Tryz.prog 108 = false := by kernel_rfl
@[simp] theorem f_by108 : byT Tryz.prog 108 = some 8 := by kernel_rfl
@[simp] theorem f_z108 : zT Tryz.prog 108 = some [.nilFunc] := by kernel_rfl
@[simp] theorem f_sz109 : szT Tryz.prog 109 = some 1 := by kernel_rfl
@[simp] theorem f_ag109 : aggT Tryz.prog 109 = some false := by kernel_rfl
@[simp] theorem f_ib109 : isBoolT Tryz.prog 109 = false := by kernel_rfl
@[simp] theorem f_is109 : isSlT Tryz.prog 109 = false := by kernel_rfl
@[simp] theorem f_by109 : byT Tryz.prog 109 = some 8 := by kernel_rfl
@[simp] theorem f_z109 : zT Tryz.prog 109 = some [.nilFunc] := by kernel_rfl
@[simp] theorem f_sz110 : szT Tryz.prog 110 = some 1 := by kernel_rfl
@[simp] theorem f_ag110 : aggT Tryz.prog 110 = some false := by kernel_rfl
@[simp] theorem f_ib110 : isBoolT Tryz.prog 110 = false := by kernel_rfl
@[simp] theorem f_is110 : isSlT Tryz.prog 110 = false := by kernel_rfl
@[simp] theorem f_by110 : byT Tryz.prog 110 = some 8 := by kernel_rfl
@[simp] theorem f_z110 : zT Tryz.prog 110 = some [.nilFunc] := by kernel_rfl
@[simp] theorem f_sz111 : szT Tryz.prog 111 = some 1 := by kernel_rfl
@[simp] theorem f_ag111 : aggT Tryz.prog 111 = some false := by kernel_rfl
@[simp] theorem f_ib111 : isBoolT Tryz.prog 111 = false := by kernel_rfl
@[simp] theorem f_is111 : isSlT Tryz.prog 111 = false := by kernel_rfl
@[simp] theorem f_by111 : byT Tryz.prog 111 = some 8 := by kernel_rfl
@[simp] theorem f_z111 : zT Tryz.prog 111 = some [.nilFunc] := by kernel_rfl
@[simp] theorem f_sz112 : szT Tryz.prog 112 = some 1 := by kernel_rfl
@[simp] theorem f_ag112 : aggT Tryz.prog 112 = some false := by kernel_rfl
@[simp] theorem f_ib112 : isBoolT Tryz.prog 112 = false := by kernel_rfl
@[simp] theorem f_is112 : isSlT Tryz.prog 112 = false := by kernel_rfl
@[simp] theorem f_by112 : byT Tryz.prog 112 = some 8 := by kernel_rfl
@[simp] theorem f_z112 : zT Tryz.prog 112 = some [.nilFunc] := by kernel_rfl
@[simp] theorem f_sz113 : szT Tryz.prog 113 = some 1 := by kernel_rfl
@[simp] theorem f_ag113 : aggT Tryz.prog 113 = some false := by kernel_rfl
@[simp] theorem f_ib113 : isBoolT Tryz.prog 113 = false := by kernel_rfl
@[simp] theorem f_is113 : isSlT Tryz.prog 113 = false := by kernel_rfl
@[simp] theorem f_by113 : byT Tryz.prog 113 = some 8 := by kernel_rfl
@[simp] theorem f_z113 : zT Tryz.prog 113 = some [.nilFunc] := by kernel_rfl
@[simp] theorem f_sz114 : szT Tryz.prog 114 = some 1 := by kernel_rfl
@[simp] theorem f_ag114 : aggT Tryz.prog 114 = some false := by kernel_rfl
@[simp] theorem f_ib114 : isBoolT Tryz.prog 114 = false := by kernel_rfl
@[simp] theorem f_is114 : isSlT Tryz.prog 114 = false := by kernel_rfl
@[simp] theorem f_by114 : byT Tryz.prog 114 = some 8 := by kernel_rfl
@[simp] theorem f_z114 : zT Tryz.prog 114 = some [.nilFunc] := by kernel_rfl
@[simp] theorem f_sz115 : szT Tryz.prog 115 = some 1 := by kernel_rfl
@[simp] theorem f_ag115 : aggT Tryz.prog 115 = some false := by kernel_rfl
@[simp] theorem f_ib115 : isBoolT Tryz.prog 115 = false := by kernel_rfl
@[simp] theorem f_is115 : isSlT Tryz.prog 115 = false := by kernel_rfl
@[simp] theorem f_by115 : byT Tryz.prog 115 = some 8 := by kernel_rfl
@[simp] theorem f_z115 : zT Tryz.prog 115 = some [.nilFunc] := by kernel_rfl
@[simp] theorem f_sz116 : szT Tryz.prog 116 = some 1 := by kernel_rfl
@[simp] theorem f_ag116 : aggT Tryz.prog 116 = some false := by kernel_rfl
@[simp] theorem f_ib116 : isBoolT Tryz.prog 116 = false := by kernel_rfl
@[simp] theorem f_is116 : isSlT Tryz.prog 116 = false := by kernel_rfl
@[simp] theorem f_by116 : byT Tryz.prog 116 = some 8 := by kernel_rfl
@[simp] theorem f_z116 : zT Tryz.prog 116 = some [.nilFunc] := by kernel_rfl
@[simp] theorem f_sz117 : szT Tryz.prog 117 = some 1 := by kernel_rfl
@[simp] theorem f_ag117 : aggT Tryz.prog 117 = some false := by kernel_rfl
@[simp] theorem f_ib117 : isBoolT Tryz.prog 117 = false := by kernel_rfl
@[simp] theorem f_is117 : isSlT Tryz.prog 117 = false := by kernel_rfl
@[simp] theorem f_by117 : byT Tryz.prog 117 = some 8 := by kernel_rfl
@[simp] theorem f_z117 : zT Tryz.prog 117 = some [.nilFunc] := by kernel_rfl
@[simp] theorem f_sz118 : szT Tryz.prog 118 = some 1 := by kernel_rfl
@[simp] theorem f_ag118 : aggT Tryz.prog 118 = some false := by kernel_rfl
@[simp] theorem f_ib118 : isBoolT Tryz.prog 118 = false := by kernel_rfl
@[simp] theorem f_is118 : isSlT Tryz.prog 118 = false := by kernel_rfl
@[simp] theorem f_by118 : byT Tryz.prog 118 = some 8 := by kernel_rfl
@[simp] theorem f_z118 : zT Tryz.prog 118 = some [.nilFunc] := by kernel_rfl
@[simp] theorem f_sz119 : szT Tryz.prog 119 = some 1 := by kernel_rfl
@[simp] theorem f_ag119 : aggT Tryz.prog 119 = some false := by kernel_rfl
@[simp] theorem f_ib119 : isBoolT Tryz.prog 119 = false := by kernel_rfl
@[simp] theorem f_is119 : isSlT Tryz.prog 119 = false := by kernel_rfl
@[simp] theorem f_by119 : byT Tryz.prog 119 = some 8 := by kernel_rfl
@[simp] theorem f_z119 : zT Tryz.prog 119 = some [.nilFunc] := by kernel_rfl
@[simp] theorem f_sz120 : szT Tryz.prog 120 = some 1 := by kernel_rfl
@[simp] theorem f_ag120 : aggT Tryz.prog 120 = some false := by kernel_rfl
@[simp] theorem f_ib120 : isBoolT Tryz.prog 120 = false := by kernel_rfl
@[simp] theorem f_is120 : isSlT Tryz.prog 120 = false := by kernel_rfl
@[simp] theorem f_by120 : byT Tryz.prog 120 = some 8 := by kernel_rfl
@[simp] theorem f_z120 : zT Tryz.prog 120 = some [.nilFunc] := by kernel_rfl
@[simp] theorem f_sz121 : szT Tryz.prog 121 = some 1 := by kernel_rfl
@[simp] theorem f_ag121 : aggT Tryz.prog 121 = some false := by kernel_rfl
@[simp] theorem f_ib121 : isBoolT Tryz.prog 121 = false := by kernel_rfl
@[simp] theorem f_is121 : isSlT Tryz.prog 121 = false := by kernel_rfl
@[simp] theorem f_by121 : byT Tryz.prog 121 = some 8 := by kernel_rfl
@[simp] theorem f_z121 : zT Tryz.prog 121 = some [.nilFunc] := by kernel_rfl
@[simp] theorem f_sz122 : szT Tryz.prog 122 = some 1 := by kernel_rfl
@[simp] theorem f_ag122 : aggT Tryz.prog 122 = some false := by kernel_rfl
@[simp] theorem f_ib122 : isBoolT Tryz.prog 122 = false := by kernel_rfl
@[simp] theorem f_is122 : isSlT Tryz.prog 122 = false := by kernel_rfl
@[simp] theorem f_by122 : byT Tryz.prog 122 = some 8 := by kernel_rfl
@[simp] theorem f_z122 : zT Tryz.prog 122 = some [.nilFunc] := by kernel_rfl
@[simp] theorem f_sz123 : szT Tryz.prog 123 = some 5 := by kernel_rfl
@[simp] theorem f_ag123 : aggT Tryz.prog 123 = some true := by kernel_rfl
@[simp] theorem f_ib123 : isBoolT Tryz.prog 123 = false := by kernel_rfl
@[simp] theorem f_is123 : isSlT Tryz.prog 123 = false := by kernel_rfl
@[simp] theorem f_by123 : byT Tryz.prog 123 = some 40 := by kernel_rfl
@[simp] theorem f_z123 : zT Tryz.prog 123 = some [.int .i64 0, .int .i64 0, .int .i64 0, .int .i64 0, .int .i64 0] := by kernel_rfl
@[simp] theorem f_ar123 : arT Tryz.prog 123 = some (5, 1) := by kernel_rfl
@[simp] theorem f_arA123 : arA Tryz.prog 123 = some false := by kernel_rfl
@[simp] theorem f_ok123 : fldsOk Tryz.prog 123 = true := by kernel_rfl
@[simp] theorem f_pl123_0 : placeT Tryz.prog 123 0 = some (0, 1) := by kernel_rfl
@[simp] theorem f_pl123_1 : placeT Tryz.prog 123 1 = some (1, 1) := by kernel_rfl
@[simp] theorem f_pl123_2 : placeT Tryz.prog 123 2 = some (2, 1) := by kernel_rfl
@[simp] theorem f_pl123_3 : placeT Tryz.prog 123 3 = some (3, 1) := by kernel_rfl
@[simp] theorem f_pl123_4 : placeT Tryz.prog 123 4 = some (4, 1) := by kernel_rfl
@[simp] theorem f_sz124 : szT Tryz.prog 124 = some 1 := by kernel_rfl
@[simp] theorem f_ag124 : aggT Tryz.prog 124 = some false := by kernel_rfl
@[simp] theorem f_ib124 : isBoolT Tryz.prog 124 = false := by kernel_rfl
@[simp] theorem f_is124 : isSlT Tryz.prog 124 = true := by kernel_rfl
@[simp] theorem f_by124 : byT Tryz.prog 124 = some 24 := by kernel_rfl
@[simp] theorem f_z124 : zT Tryz.prog 124 = some [.slice none 0 0] := by kernel_rfl
@[simp] theorem f_sl124 : slT Tryz.prog 124 = some 1 := by kernel_rfl
@[simp] theorem f_el124 : elT Tryz.prog 124 = some 94 := by kernel_rfl
@[simp] theorem f_sz125 : szT Tryz.prog 125 = some 1 := by kernel_rfl
@[simp] theorem f_ag125 : aggT Tryz.prog 125 = some false := by kernel_rfl
@[simp] theorem f_ib125 : isBoolT Tryz.prog 125 = false := by kernel_rfl
@[simp] theorem f_is125 : isSlT Tryz.prog 125 = false := by kernel_rfl
@[simp] theorem f_by125 : byT Tryz.prog 125 = some 8 := by kernel_rfl
@[simp] theorem f_z125 : zT Tryz.prog 125 = some [.pointer none] := by kernel_rfl
@[simp] theorem f_sz126 : szT Tryz.prog 126 = some 1 := by kernel_rfl
@[simp] theorem f_ag126 : aggT Tryz.prog 126 = some false := by kernel_rfl
@[simp] theorem f_ib126 : isBoolT Tryz.prog 126 = false := by kernel_rfl
@[simp] theorem f_is126 : isSlT Tryz.prog 126 = true := by kernel_rfl
@[simp] theorem f_by126 : byT Tryz.prog 126 = some 24 := by kernel_rfl
@[simp] theorem f_z126 : zT Tryz.prog 126 = some [.slice none 0 0] := by kernel_rfl
@[simp] theorem f_sl126 : slT Tryz.prog 126 = some 1 := by kernel_rfl
@[simp] theorem f_el126 : elT Tryz.prog 126 = some 5 := by kernel_rfl
@[simp] theorem f_sz127 : szT Tryz.prog 127 = some 2 := by kernel_rfl
@[simp] theorem f_ag127 : aggT Tryz.prog 127 = some true := by kernel_rfl
@[simp] theorem f_ib127 : isBoolT Tryz.prog 127 = false := by kernel_rfl
@[simp] theorem f_is127 : isSlT Tryz.prog 127 = false := by kernel_rfl
@[simp] theorem f_by127 : byT Tryz.prog 127 = some 32 := by kernel_rfl
@[simp] theorem f_z127 : zT Tryz.prog 127 = some [.pointer none, .slice none 0 0] := by kernel_rfl
@[simp] theorem f_ok127 : fldsOk Tryz.prog 127 = true := by kernel_rfl
@[simp] theorem f_fld127_0 : fldT Tryz.prog 127 0 = some (0, 1) := by kernel_rfl
@[simp] theorem f_fldA127_0 : fldA Tryz.prog 127 0 = some false := by kernel_rfl
@[simp] theorem f_pl127_0 : placeT Tryz.prog 127 0 = some (0, 1) := by kernel_rfl
@[simp] theorem f_fld127_1 : fldT Tryz.prog 127 1 = some (1, 1) := by kernel_rfl
@[simp] theorem f_fldA127_1 : fldA Tryz.prog 127 1 = some false := by kernel_rfl
@[simp] theorem f_pl127_1 : placeT Tryz.prog 127 1 = some (1, 1) := by kernel_rfl
@[simp] theorem f_sz128 : szT Tryz.prog 128 = some 2 := by kernel_rfl
@[simp] theorem f_ag128 : aggT Tryz.prog 128 = some true := by kernel_rfl
@[simp] theorem f_ib128 : isBoolT Tryz.prog 128 = false := by kernel_rfl
@[simp] theorem f_is128 : isSlT Tryz.prog 128 = false := by kernel_rfl
@[simp] theorem f_by128 : byT Tryz.prog 128 = some 32 := by kernel_rfl
@[simp] theorem f_z128 : zT Tryz.prog 128 = some [.pointer none, .slice none 0 0] := by kernel_rfl
@[simp] theorem f_ok128 : fldsOk Tryz.prog 128 = true := by kernel_rfl
@[simp] theorem f_fld128_0 : fldT Tryz.prog 128 0 = some (0, 1) := by kernel_rfl
@[simp] theorem f_fldA128_0 : fldA Tryz.prog 128 0 = some false := by kernel_rfl
@[simp] theorem f_pl128_0 : placeT Tryz.prog 128 0 = some (0, 1) := by kernel_rfl
@[simp] theorem f_fld128_1 : fldT Tryz.prog 128 1 = some (1, 1) := by kernel_rfl
@[simp] theorem f_fldA128_1 : fldA Tryz.prog 128 1 = some false := by kernel_rfl
@[simp] theorem f_pl128_1 : placeT Tryz.prog 128 1 = some (1, 1) := by kernel_rfl
@[simp] theorem f_sz129 : szT Tryz.prog 129 = some 1 := by kernel_rfl
@[simp] theorem f_ag129 : aggT Tryz.prog 129 = some false := by kernel_rfl
@[simp] theorem f_ib129 : isBoolT Tryz.prog 129 = false := by kernel_rfl
@[simp] theorem f_is129 : isSlT Tryz.prog 129 = false := by kernel_rfl
@[simp] theorem f_by129 : byT Tryz.prog 129 = some 8 := by kernel_rfl
@[simp] theorem f_z129 : zT Tryz.prog 129 = some [.nilFunc] := by kernel_rfl
@[simp] theorem f_sz130 : szT Tryz.prog 130 = some 0 := by kernel_rfl
@[simp] theorem f_ag130 : aggT Tryz.prog 130 = some true := by kernel_rfl
@[simp] theorem f_ib130 : isBoolT Tryz.prog 130 = false := by kernel_rfl
@[simp] theorem f_is130 : isSlT Tryz.prog 130 = false := by kernel_rfl
@[simp] theorem f_by130 : byT Tryz.prog 130 = some 0 := by kernel_rfl
@[simp] theorem f_z130 : zT Tryz.prog 130 = some [] := by kernel_rfl
@[simp] theorem f_ok130 : fldsOk Tryz.prog 130 = true := by kernel_rfl
@[simp] theorem f_sz131 : szT Tryz.prog 131 = some 0 := by kernel_rfl
@[simp] theorem f_ag131 : aggT Tryz.prog 131 = some true := by kernel_rfl
@[simp] theorem f_ib131 : isBoolT Tryz.prog 131 = false := by kernel_rfl
@[simp] theorem f_is131 : isSlT Tryz.prog 131 = false := by kernel_rfl
@[simp] theorem f_by131 : byT Tryz.prog 131 = some 0 := by kernel_rfl
@[simp] theorem f_z131 : zT Tryz.prog 131 = some [] := by kernel_rfl
@[simp] theorem f_ok131 : fldsOk Tryz.prog 131 = true := by kernel_rfl
@[simp] theorem f_sz133 : szT Tryz.prog 133 = some 1 := by kernel_rfl
@[simp] theorem f_ag133 : aggT Tryz.prog 133 = some false := by kernel_rfl
@[simp] theorem f_ib133 : isBoolT Tryz.prog 133 = false := by kernel_rfl
@[simp] theorem f_is133 : isSlT Tryz.prog 133 = false := by kernel_rfl
@[simp] theorem f_by133 : byT Tryz.prog 133 = some 8 := by kernel_rfl
@[simp] theorem f_z133 : zT Tryz.prog 133 = some [.pointer none] := by kernel_rfl
@[simp] theorem f_sz134 : szT Tryz.prog 134 = some 1 := by kernel_rfl
@[simp] theorem f_ag134 : aggT Tryz.prog 134 = some true := by kernel_rfl
@[simp] theorem f_ib134 : isBoolT Tryz.prog 134 = false := by kernel_rfl
@[simp] theorem f_is134 : isSlT Tryz.prog 134 = false := by kernel_rfl
@[simp] theorem f_by134 : byT Tryz.prog 134 = some 16 := by kernel_rfl
@[simp] theorem f_z134 : zT Tryz.prog 134 = some [.string ByteArray.empty] := by kernel_rfl
@[simp] theorem f_ok134 : fldsOk Tryz.prog 134 = true := by kernel_rfl
@[simp] theorem f_fld134_0 : fldT Tryz.prog 134 0 = some (0, 1) := by kernel_rfl
@[simp] theorem f_fldA134_0 : fldA Tryz.prog 134 0 = some false := by kernel_rfl
@[simp] theorem f_pl134_0 : placeT Tryz.prog 134 0 = some (0, 1) := by kernel_rfl
@[simp] theorem f_sz135 : szT Tryz.prog 135 = some 1 := by kernel_rfl
@[simp] theorem f_ag135 : aggT Tryz.prog 135 = some true := by kernel_rfl
@[simp] theorem f_ib135 : isBoolT Tryz.prog 135 = false := by kernel_rfl
@[simp] theorem f_is135 : isSlT Tryz.prog 135 = false := by kernel_rfl
@[simp] theorem f_by135 : byT Tryz.prog 135 = some 16 := by kernel_rfl
@[simp] theorem f_z135 : zT Tryz.prog 135 = some [.string ByteArray.empty] := by kernel_rfl
@[simp] theorem f_ok135 : fldsOk Tryz.prog 135 = true := by kernel_rfl
@[simp] theorem f_fld135_0 : fldT Tryz.prog 135 0 = some (0, 1) := by kernel_rfl
@[simp] theorem f_fldA135_0 : fldA Tryz.prog 135 0 = some false := by kernel_rfl
@[simp] theorem f_pl135_0 : placeT Tryz.prog 135 0 = some (0, 1) := by kernel_rfl
@[simp] theorem f_sz136 : szT Tryz.prog 136 = some 1 := by kernel_rfl
@[simp] theorem f_ag136 : aggT Tryz.prog 136 = some false := by kernel_rfl
@[simp] theorem f_ib136 : isBoolT Tryz.prog 136 = false := by kernel_rfl
@[simp] theorem f_is136 : isSlT Tryz.prog 136 = false := by kernel_rfl
@[simp] theorem f_by136 : byT Tryz.prog 136 = some 8 := by kernel_rfl
@[simp] theorem f_z136 : zT Tryz.prog 136 = some [.nilFunc] := by kernel_rfl
@[simp] theorem f_sz137 : szT Tryz.prog 137 = some 1 := by kernel_rfl
@[simp] theorem f_ag137 : aggT Tryz.prog 137 = some false := by kernel_rfl
@[simp] theorem f_ib137 : isBoolT Tryz.prog 137 = false := by kernel_rfl
@[simp] theorem f_is137 : isSlT Tryz.prog 137 = false := by kernel_rfl
@[simp] theorem f_by137 : byT Tryz.prog 137 = some 8 := by kernel_rfl
@[simp] theorem f_z137 : zT Tryz.prog 137 = some [.nilFunc] := by kernel_rfl
@[simp] theorem f_sz138 : szT Tryz.prog 138 = some 1 := by kernel_rfl
@[simp] theorem f_ag138 : aggT Tryz.prog 138 = some false := by kernel_rfl
@[simp] theorem f_ib138 : isBoolT Tryz.prog 138 = false := by kernel_rfl
@[simp] theorem f_is138 : isSlT Tryz.prog 138 = false := by kernel_rfl
@[simp] theorem f_by138 : byT Tryz.prog 138 = some 8 := by kernel_rfl
@[simp] theorem f_z138 : zT Tryz.prog 138 = some [.nilFunc] := by kernel_rfl
@[simp] theorem f_sz139 : szT Tryz.prog 139 = some 1 := by kernel_rfl
@[simp] theorem f_ag139 : aggT Tryz.prog 139 = some false := by kernel_rfl
@[simp] theorem f_ib139 : isBoolT Tryz.prog 139 = false := by kernel_rfl
@[simp] theorem f_is139 : isSlT Tryz.prog 139 = false := by kernel_rfl
@[simp] theorem f_by139 : byT Tryz.prog 139 = some 8 := by kernel_rfl
@[simp] theorem f_z139 : zT Tryz.prog 139 = some [.nilFunc] := by kernel_rfl
@[simp] theorem f_sz140 : szT Tryz.prog 140 = some 1 := by kernel_rfl
@[simp] theorem f_ag140 : aggT Tryz.prog 140 = some false := by kernel_rfl
@[simp] theorem f_ib140 : isBoolT Tryz.prog 140 = false := by kernel_rfl
@[simp] theorem f_is140 : isSlT Tryz.prog 140 = false := by kernel_rfl
@[simp] theorem f_by140 : byT Tryz.prog 140 = some 8 := by kernel_rfl
@[simp] theorem f_z140 : zT Tryz.prog 140 = some [.nilFunc] := by kernel_rfl
@[simp] theorem f_sz141 : szT Tryz.prog 141 = some 1 := by kernel_rfl
@[simp] theorem f_ag141 : aggT Tryz.prog 141 = some false := by kernel_rfl
@[simp] theorem f_ib141 : isBoolT Tryz.prog 141 = false := by kernel_rfl
@[simp] theorem f_is141 : isSlT Tryz.prog 141 = true := by kernel_rfl
@[simp] theorem f_by141 : byT Tryz.prog 141 = some 24 := by kernel_rfl
@[simp] theorem f_z141 : zT Tryz.prog 141 = some [.slice none 0 0] := by kernel_rfl
@[simp] theorem f_sl141 : slT Tryz.prog 141 = some 1 := by kernel_rfl
@[simp] theorem f_el141 : elT Tryz.prog 141 = some 107 := by kernel_rfl
@[simp] theorem f_sz142 : szT Tryz.prog 142 = some 1 := by kernel_rfl
@[simp] theorem f_ag142 : aggT Tryz.prog 142 = some false := by kernel_rfl
@[simp] theorem f_ib142 : isBoolT Tryz.prog 142 = false := by kernel_rfl
@[simp] theorem f_is142 : isSlT Tryz.prog 142 = false := by kernel_rfl
@[simp] theorem f_by142 : byT Tryz.prog 142 = some 8 := by kernel_rfl
@[simp] theorem f_z142 : zT Tryz.prog 142 = some [.nilFunc] := by kernel_rfl
@[simp] theorem f_sz143 : szT Tryz.prog 143 = some 1 := by kernel_rfl
@[simp] theorem f_ag143 : aggT Tryz.prog 143 = some false := by kernel_rfl
@[simp] theorem f_ib143 : isBoolT Tryz.prog 143 = false := by kernel_rfl
@[simp] theorem f_is143 : isSlT Tryz.prog 143 = false := by kernel_rfl
@[simp] theorem f_by143 : byT Tryz.prog 143 = some 8 := by kernel_rfl
@[simp] theorem f_z143 : zT Tryz.prog 143 = some [.nilFunc] := by kernel_rfl
@[simp] theorem f_sz144 : szT Tryz.prog 144 = some 1 := by kernel_rfl
@[simp] theorem f_ag144 : aggT Tryz.prog 144 = some false := by kernel_rfl
@[simp] theorem f_ib144 : isBoolT Tryz.prog 144 = false := by kernel_rfl
@[simp] theorem f_is144 : isSlT Tryz.prog 144 = false := by kernel_rfl
@[simp] theorem f_by144 : byT Tryz.prog 144 = some 8 := by kernel_rfl
@[simp] theorem f_z144 : zT Tryz.prog 144 = some [.nilFunc] := by kernel_rfl
@[simp] theorem f_sz145 : szT Tryz.prog 145 = some 1 := by kernel_rfl
@[simp] theorem f_ag145 : aggT Tryz.prog 145 = some false := by kernel_rfl
@[simp] theorem f_ib145 : isBoolT Tryz.prog 145 = false := by kernel_rfl
@[simp] theorem f_is145 : isSlT Tryz.prog 145 = true := by kernel_rfl
@[simp] theorem f_by145 : byT Tryz.prog 145 = some 24 := by kernel_rfl
@[simp] theorem f_z145 : zT Tryz.prog 145 = some [.slice none 0 0] := by kernel_rfl
@[simp] theorem f_sl145 : slT Tryz.prog 145 = some 1 := by kernel_rfl
@[simp] theorem f_el145 : elT Tryz.prog 145 = some 22 := by kernel_rfl
@[simp] theorem f_sz146 : szT Tryz.prog 146 = some 1 := by kernel_rfl
@[simp] theorem f_ag146 : aggT Tryz.prog 146 = some false := by kernel_rfl
@[simp] theorem f_ib146 : isBoolT Tryz.prog 146 = false := by kernel_rfl
@[simp] theorem f_is146 : isSlT Tryz.prog 146 = false := by kernel_rfl
@[simp] theorem f_by146 : byT Tryz.prog 146 = some 8 := by kernel_rfl
@[simp] theorem f_z146 : zT Tryz.prog 146 = some [.nilFunc] := by kernel_rfl
@[simp] theorem f_sz147 : szT Tryz.prog 147 = some 1 := by kernel_rfl
@[simp] theorem f_ag147 : aggT Tryz.prog 147 = some false := by kernel_rfl
@[simp] theorem f_ib147 : isBoolT Tryz.prog 147 = false := by kernel_rfl
@[simp] theorem f_is147 : isSlT Tryz.prog 147 = false := by kernel_rfl
@[simp] theorem f_by147 : byT Tryz.prog 147 = some 8 := by kernel_rfl
@[simp] theorem f_z147 : zT Tryz.prog 147 = some [.nilFunc] := by kernel_rfl
@[simp] theorem f_sz148 : szT Tryz.prog 148 = some 1 := by kernel_rfl
@[simp] theorem f_ag148 : aggT Tryz.prog 148 = some false := by kernel_rfl
@[simp] theorem f_ib148 : isBoolT Tryz.prog 148 = false := by kernel_rfl
@[simp] theorem f_is148 : isSlT Tryz.prog 148 = false := by kernel_rfl
@[simp] theorem f_by148 : byT Tryz.prog 148 = some 8 := by kernel_rfl
@[simp] theorem f_z148 : zT Tryz.prog 148 = some [.nilFunc] := by kernel_rfl
@[simp] theorem f_sz149 : szT Tryz.prog 149 = some 1 := by kernel_rfl
@[simp] theorem f_ag149 : aggT Tryz.prog 149 = some false := by kernel_rfl
@[simp] theorem f_ib149 : isBoolT Tryz.prog 149 = false := by kernel_rfl
@[simp] theorem f_is149 : isSlT Tryz.prog 149 = false := by kernel_rfl
@[simp] theorem f_by149 : byT Tryz.prog 149 = some 8 := by kernel_rfl
@[simp] theorem f_z149 : zT Tryz.prog 149 = some [.nilFunc] := by kernel_rfl
@[simp] theorem f_sz153 : szT Tryz.prog 153 = some 1 := by kernel_rfl
@[simp] theorem f_ag153 : aggT Tryz.prog 153 = some false := by kernel_rfl
@[simp] theorem f_ib153 : isBoolT Tryz.prog 153 = false := by kernel_rfl
@[simp] theorem f_is153 : isSlT Tryz.prog 153 = false := by kernel_rfl
@[simp] theorem f_by153 : byT Tryz.prog 153 = some 8 := by kernel_rfl
@[simp] theorem f_z153 : zT Tryz.prog 153 = some [.nilFunc] := by kernel_rfl
@[simp] theorem f_sz154 : szT Tryz.prog 154 = some 1 := by kernel_rfl
@[simp] theorem f_ag154 : aggT Tryz.prog 154 = some false := by kernel_rfl
@[simp] theorem f_ib154 : isBoolT Tryz.prog 154 = false := by kernel_rfl
@[simp] theorem f_is154 : isSlT Tryz.prog 154 = false := by kernel_rfl
@[simp] theorem f_by154 : byT Tryz.prog 154 = some 8 := by kernel_rfl
@[simp] theorem f_z154 : zT Tryz.prog 154 = some [.nilFunc] := by kernel_rfl
@[simp] theorem f_sz155 : szT Tryz.prog 155 = some 1 := by kernel_rfl
@[simp] theorem f_ag155 : aggT Tryz.prog 155 = some false := by kernel_rfl
@[simp] theorem f_ib155 : isBoolT Tryz.prog 155 = false := by kernel_rfl
@[simp] theorem f_is155 : isSlT Tryz.prog 155 = false := by kernel_rfl
@[simp] theorem f_by155 : byT Tryz.prog 155 = some 8 := by kernel_rfl
@[simp] theorem f_z155 : zT Tryz.prog 155 = some [.pointer none] := by kernel_rfl
@[simp] theorem f_sz156 : szT Tryz.prog 156 = some 1 := by kernel_rfl
@[simp] theorem f_ag156 : aggT Tryz.prog 156 = some false := by kernel_rfl
@[simp] theorem f_ib156 : isBoolT Tryz.prog 156 = false := by kernel_rfl
@[simp] theorem f_is156 : isSlT Tryz.prog 156 = false := by kernel_rfl
@[simp] theorem f_by156 : byT Tryz.prog 156 = some 8 := by kernel_rfl
@[simp] theorem f_z156 : zT Tryz.prog 156 = some [.nilFunc] := by kernel_rfl
@[simp] theorem f_sz157 : szT Tryz.prog 157 = some 1 := by kernel_rfl
@[simp] theorem f_ag157 : aggT Tryz.prog 157 = some false := by kernel_rfl
@[simp] theorem f_ib157 : isBoolT Tryz.prog 157 = false := by kernel_rfl
@[simp] theorem f_is157 : isSlT Tryz.prog 157 = false := by kernel_rfl
@[simp] theorem f_by157 : byT Tryz.prog 157 = some 8 := by kernel_rfl
@[simp] theorem f_z157 : zT Tryz.prog 157 = some [.nilFunc] := by kernel_rfl
@[simp] theorem f_sz158 : szT Tryz.prog 158 = some 1 := by kernel_rfl
@[simp] theorem f_ag158 : aggT Tryz.prog 158 = some false := by kernel_rfl
@[simp] theorem f_ib158 : isBoolT Tryz.prog 158 = false := by kernel_rfl
@[simp] theorem f_is158 : isSlT Tryz.prog 158 = false := by kernel_rfl
@[simp] theorem f_by158 : byT Tryz.prog 158 = some 8 := by kernel_rfl
@[simp] theorem f_z158 : zT Tryz.prog 158 = some [.nilFunc] := by kernel_rfl
@[simp] theorem f_sz159 : szT Tryz.prog 159 = some 1 := by kernel_rfl
@[simp] theorem f_ag159 : aggT Tryz.prog 159 = some false := by kernel_rfl
@[simp] theorem f_ib159 : isBoolT Tryz.prog 159 = false := by kernel_rfl
@[simp] theorem f_is159 : isSlT Tryz.prog 159 = false := by kernel_rfl
@[simp] theorem f_by159 : byT Tryz.prog 159 = some 8 := by kernel_rfl
@[simp] theorem f_z159 : zT Tryz.prog 159 = some [.nilFunc] := by kernel_rfl
@[simp] theorem f_sz160 : szT Tryz.prog 160 = some 1 := by kernel_rfl
@[simp] theorem f_ag160 : aggT Tryz.prog 160 = some false := by kernel_rfl
@[simp] theorem f_ib160 : isBoolT Tryz.prog 160 = false := by kernel_rfl
@[simp] theorem f_is160 : isSlT Tryz.prog 160 = true := by kernel_rfl
@[simp] theorem f_by160 : byT Tryz.prog 160 = some 24 := by kernel_rfl
@[simp] theorem f_z160 : zT Tryz.prog 160 = some [.slice none 0 0] := by kernel_rfl
@[simp] theorem f_sl160 : slT Tryz.prog 160 = some 2 := by kernel_rfl
@[simp] theorem f_el160 : elT Tryz.prog 160 = some 162 := by kernel_rfl
@[simp] theorem f_sz161 : szT Tryz.prog 161 = some 2 := by kernel_rfl
@[simp] theorem f_ag161 : aggT Tryz.prog 161 = some true := by kernel_rfl
@[simp] theorem f_ib161 : isBoolT Tryz.prog 161 = false := by kernel_rfl
@[simp] theorem f_is161 : isSlT Tryz.prog 161 = false := by kernel_rfl
@[simp] theorem f_by161 : byT Tryz.prog 161 = some 32 := by kernel_rfl
@[simp] theorem f_z161 : zT Tryz.prog 161 = some [.int .i64 0, .slice none 0 0] := by kernel_rfl
@[simp] theorem f_ok161 : fldsOk Tryz.prog 161 = true := by kernel_rfl
@[simp] theorem f_fld161_0 : fldT Tryz.prog 161 0 = some (0, 1) := by kernel_rfl
@[simp] theorem f_fldA161_0 : fldA Tryz.prog 161 0 = some false := by kernel_rfl
@[simp] theorem f_pl161_0 : placeT Tryz.prog 161 0 = some (0, 1) := by kernel_rfl
@[simp] theorem f_fld161_1 : fldT Tryz.prog 161 1 = some (1, 1) := by kernel_rfl
@[simp] theorem f_fldA161_1 : fldA Tryz.prog 161 1 = some false := by kernel_rfl
@[simp] theorem f_pl161_1 : placeT Tryz.prog 161 1 = some (1, 1) := by kernel_rfl
@[simp] theorem f_sz162 : szT Tryz.prog 162 = some 2 := by kernel_rfl
@[simp] theorem f_ag162 : aggT Tryz.prog 162 = some true := by kernel_rfl
@[simp] theorem f_ib162 : isBoolT Tryz.prog 162 = false := by kernel_rfl
@[simp] theorem f_is162 : isSlT Tryz.prog 162 = false := by kernel_rfl
@[simp] theorem f_by162 : byT Tryz.prog 162 = some 32 := by kernel_rfl
@[simp] theorem f_z162 : zT Tryz.prog 162 = some [.int .i64 0, .slice none 0 0] := by kernel_rfl
@[simp] theorem f_ok162 : fldsOk Tryz.prog 162 = true := by kernel_rfl
@[simp] theorem f_fld162_0 : fldT Tryz.prog 162 0 = some (0, 1) := by kernel_rfl
@[simp] theorem f_fldA162_0 : fldA Tryz.prog 162 0 = some false := by kernel_rfl
@[simp] theorem f_pl162_0 : placeT Tryz.prog 162 0 = some (0, 1) := by kernel_rfl
@[simp] theorem f_fld162_1 : fldT Tryz.prog 162 1 = some (1, 1) := by kernel_rfl
@[simp] theorem f_fldA162_1 : fldA Tryz.prog 162 1 = some false := by kernel_rfl
@[simp] theorem f_pl162_1 : placeT Tryz.prog 162 1 = some (1, 1) := by kernel_rfl
@[simp] theorem f_sz163 : szT Tryz.prog 163 = some 1 := by kernel_rfl
@[simp] theorem f_ag163 : aggT Tryz.prog 163 = some false := by kernel_rfl
@[simp] theorem f_ib163 : isBoolT Tryz.prog 163 = false := by kernel_rfl
@[simp] theorem f_is163 : isSlT Tryz.prog 163 = false := by kernel_rfl
@[simp] theorem f_by163 : byT Tryz.prog 163 = some 8 := by kernel_rfl
@[simp] theorem f_z163 : zT Tryz.prog 163 = some [.nilFunc] := by kernel_rfl
@[simp] theorem f_sz164 : szT Tryz.prog 164 = some 1 := by kernel_rfl
@[simp] theorem f_ag164 : aggT Tryz.prog 164 = some false := by kernel_rfl
@[simp] theorem f_ib164 : isBoolT Tryz.prog 164 = false := by kernel_rfl
@[simp] theorem f_is164 : isSlT Tryz.prog 164 = false := by kernel_rfl
@[simp] theorem f_by164 : byT Tryz.prog 164 = some 8 := by kernel_rfl
@[simp] theorem f_z164 : zT Tryz.prog 164 = some [.nilFunc] := by kernel_rfl
@[simp] theorem f_sz165 : szT Tryz.prog 165 = some 1 := by kernel_rfl
@[simp] theorem f_ag165 : aggT Tryz.prog 165 = some false := by kernel_rfl
@[simp] theorem f_ib165 : isBoolT Tryz.prog 165 = false := by kernel_rfl
@[simp] theorem f_is165 : isSlT Tryz.prog 165 = false := by kernel_rfl
@[simp] theorem f_by165 : byT Tryz.prog 165 = some 8 := by kernel_rfl
@[simp] theorem f_z165 : zT Tryz.prog 165 = some [.nilFunc] := by kernel_rfl
@[simp] theorem f_sz166 : szT Tryz.prog 166 = some 1 := by kernel_rfl
@[simp] theorem f_ag166 : aggT Tryz.prog 166 = some false := by kernel_rfl
@[simp] theorem f_ib166 : isBoolT Tryz.prog 166 = false := by kernel_rfl
@[simp] theorem f_is166 : isSlT Tryz.prog 166 = false := by kernel_rfl
@[simp] theorem f_by166 : byT Tryz.prog 166 = some 8 := by kernel_rfl
@[simp] theorem f_z166 : zT Tryz.prog 166 = some [.nilFunc] := by kernel_rfl
@[simp] theorem f_sz167 : szT Tryz.prog 167 = some 1 := by kernel_rfl
@[simp] theorem f_ag167 : aggT Tryz.prog 167 = some false := by kernel_rfl
@[simp] theorem f_ib167 : isBoolT Tryz.prog 167 = false := by kernel_rfl
@[simp] theorem f_is167 : isSlT Tryz.prog 167 = false := by kernel_rfl
@[simp] theorem f_by167 : byT Tryz.prog 167 = some 8 := by kernel_rfl
@[simp] theorem f_z167 : zT Tryz.prog 167 = some [.nilFunc] := by kernel_rfl
@[simp] theorem f_sz168 : szT Tryz.prog 168 = some 1 := by kernel_rfl
@[simp] theorem f_ag168 : aggT Tryz.prog 168 = some false := by kernel_rfl
@[simp] theorem f_ib168 : isBoolT Tryz.prog 168 = false := by kernel_rfl
@[simp] theorem f_is168 : isSlT Tryz.prog 168 = false := by kernel_rfl
@[simp] theorem f_by168 : byT Tryz.prog 168 = some 8 := by kernel_rfl
@[simp] theorem f_z168 : zT Tryz.prog 168 = some [.nilFunc] := by kernel_rfl
@[simp] theorem f_sz170 : szT Tryz.prog 170 = some 1 := by kernel_rfl
@[simp] theorem f_ag170 : aggT Tryz.prog 170 = some false := by kernel_rfl
@[simp] theorem f_ib170 : isBoolT Tryz.prog 170 = false := by kernel_rfl
@[simp] theorem f_is170 : isSlT Tryz.prog 170 = false := by kernel_rfl
@[simp] theorem f_by170 : byT Tryz.prog 170 = some 8 := by kernel_rfl
@[simp] theorem f_z170 : zT Tryz.prog 170 = some [.nilFunc] := by kernel_rfl
@[simp] theorem f_sz171 : szT Tryz.prog 171 = some 1 := by kernel_rfl
@[simp] theorem f_ag171 : aggT Tryz.prog 171 = some false := by kernel_rfl
@[simp] theorem f_ib171 : isBoolT Tryz.prog 171 = false := by kernel_rfl
@[simp] theorem f_is171 : isSlT Tryz.prog 171 = false := by kernel_rfl
@[simp] theorem f_by171 : byT Tryz.prog 171 = some 8 := by kernel_rfl
@[simp] theorem f_z171 : zT Tryz.prog 171 = some [.nilFunc] := by kernel_rfl
@[simp] theorem f_sz172 : szT Tryz.prog 172 = some 1 := by kernel_rfl
@[simp] theorem f_ag172 : aggT Tryz.prog 172 = some false := by kernel_rfl
@[simp] theorem f_ib172 : isBoolT Tryz.prog 172 = false := by kernel_rfl
@[simp] theorem f_is172 : isSlT Tryz.prog 172 = false := by kernel_rfl
@[simp] theorem f_by172 : byT Tryz.prog 172 = some 8 := by kernel_rfl
@[simp] theorem f_z172 : zT Tryz.prog 172 = some [.int .u64 0] := by kernel_rfl
@[simp] theorem f_sz173 : szT Tryz.prog 173 = some 1 := by kernel_rfl
@[simp] theorem f_ag173 : aggT Tryz.prog 173 = some false := by kernel_rfl
@[simp] theorem f_ib173 : isBoolT Tryz.prog 173 = false := by kernel_rfl
@[simp] theorem f_is173 : isSlT Tryz.prog 173 = false := by kernel_rfl
@[simp] theorem f_by173 : byT Tryz.prog 173 = some 8 := by kernel_rfl
@[simp] theorem f_z173 : zT Tryz.prog 173 = some [.map none] := by kernel_rfl
@[simp] theorem f_sz175 : szT Tryz.prog 175 = some 1 := by kernel_rfl
@[simp] theorem f_ag175 : aggT Tryz.prog 175 = some false := by kernel_rfl
@[simp] theorem f_ib175 : isBoolT Tryz.prog 175 = false := by kernel_rfl
@[simp] theorem f_is175 : isSlT Tryz.prog 175 = false := by kernel_rfl
@[simp] theorem f_by175 : byT Tryz.prog 175 = some 8 := by kernel_rfl
@[simp] theorem f_z175 : zT Tryz.prog 175 = some [.nilFunc] := by kernel_rfl
@[simp] theorem f_sz176 : szT Tryz.prog 176 = some 1 := by kernel_rfl
@[simp] theorem f_ag176 : aggT Tryz.prog 176 = some false := by kernel_rfl
@[simp] theorem f_ib176 : isBoolT Tryz.prog 176 = false := by kernel_rfl
@[simp] theorem f_is176 : isSlT Tryz.prog 176 = false := by kernel_rfl
@[simp] theorem f_by176 : byT Tryz.prog 176 = some 8 := by kernel_rfl
@[simp] theorem f_z176 : zT Tryz.prog 176 = some [.nilFunc] := by kernel_rfl
@[simp] theorem f_sz177 : szT Tryz.prog 177 = some 1 := by kernel_rfl
@[simp] theorem f_ag177 : aggT Tryz.prog 177 = some false := by kernel_rfl
@[simp] theorem f_ib177 : isBoolT Tryz.prog 177 = false := by kernel_rfl
@[simp] theorem f_is177 : isSlT Tryz.prog 177 = false := by kernel_rfl
@[simp] theorem f_by177 : byT Tryz.prog 177 = some 8 := by kernel_rfl
@[simp] theorem f_z177 : zT Tryz.prog 177 = some [.nilFunc] := by kernel_rfl
@[simp] theorem f_sz178 : szT Tryz.prog 178 = some 1 := by kernel_rfl
@[simp] theorem f_ag178 : aggT Tryz.prog 178 = some false := by kernel_rfl
@[simp] theorem f_ib178 : isBoolT Tryz.prog 178 = false := by kernel_rfl
@[simp] theorem f_is178 : isSlT Tryz.prog 178 = false := by kernel_rfl
@[simp] theorem f_by178 : byT Tryz.prog 178 = some 8 := by kernel_rfl
@[simp] theorem f_z178 : zT Tryz.prog 178 = some [.nilFunc] := by kernel_rfl
@[simp] theorem f_sz179 : szT Tryz.prog 179 = some 1 := by kernel_rfl
@[simp] theorem f_ag179 : aggT Tryz.prog 179 = some false := by kernel_rfl
@[simp] theorem f_ib179 : isBoolT Tryz.prog 179 = false := by kernel_rfl
@[simp] theorem f_is179 : isSlT Tryz.prog 179 = false := by kernel_rfl
@[simp] theorem f_by179 : byT Tryz.prog 179 = some 8 := by kernel_rfl
@[simp] theorem f_z179 : zT Tryz.prog 179 = some [.nilFunc] := by kernel_rfl
@[simp] theorem f_sz180 : szT Tryz.prog 180 = some 1 := by kernel_rfl
@[simp] theorem f_ag180 : aggT Tryz.prog 180 = some false := by kernel_rfl
@[simp] theorem f_ib180 : isBoolT Tryz.prog 180 = false := by kernel_rfl
@[simp] theorem f_is180 : isSlT Tryz.prog 180 = false := by kernel_rfl
@[simp] theorem f_by180 : byT Tryz.prog 180 = some 4 := by kernel_rfl
@[simp] theorem f_z180 : zT Tryz.prog 180 = some [.int .u32 0] := by kernel_rfl
@[simp] theorem f_sz181 : szT Tryz.prog 181 = some 1 := by kernel_rfl
@[simp] theorem f_ag181 : aggT Tryz.prog 181 = some false := by kernel_rfl
@[simp] theorem f_ib181 : isBoolT Tryz.prog 181 = false := by kernel_rfl
@[simp] theorem f_is181 : isSlT Tryz.prog 181 = false := by kernel_rfl
@[simp] theorem f_by181 : byT Tryz.prog 181 = some 8 := by kernel_rfl
@[simp] theorem f_z181 : zT Tryz.prog 181 = some [.nilFunc] := by kernel_rfl
@[simp] theorem f_sz182 : szT Tryz.prog 182 = some 1 := by kernel_rfl
@[simp] theorem f_ag182 : aggT Tryz.prog 182 = some false := by kernel_rfl
@[simp] theorem f_ib182 : isBoolT Tryz.prog 182 = false := by kernel_rfl
@[simp] theorem f_is182 : isSlT Tryz.prog 182 = false := by kernel_rfl
@[simp] theorem f_by182 : byT Tryz.prog 182 = some 8 := by kernel_rfl
@[simp] theorem f_z182 : zT Tryz.prog 182 = some [.int .u64 0] := by kernel_rfl
@[simp] theorem f_sz184 : szT Tryz.prog 184 = some 1 := by kernel_rfl
@[simp] theorem f_ag184 : aggT Tryz.prog 184 = some false := by kernel_rfl
@[simp] theorem f_ib184 : isBoolT Tryz.prog 184 = false := by kernel_rfl
@[simp] theorem f_is184 : isSlT Tryz.prog 184 = false := by kernel_rfl
@[simp] theorem f_by184 : byT Tryz.prog 184 = some 8 := by kernel_rfl
@[simp] theorem f_z184 : zT Tryz.prog 184 = some [.nilFunc] := by kernel_rfl
@[simp] theorem f_sz185 : szT Tryz.prog 185 = some 1 := by kernel_rfl
@[simp] theorem f_ag185 : aggT Tryz.prog 185 = some false := by kernel_rfl
@[simp] theorem f_ib185 : isBoolT Tryz.prog 185 = false := by kernel_rfl
@[simp] theorem f_is185 : isSlT Tryz.prog 185 = false := by kernel_rfl
@[simp] theorem f_by185 : byT Tryz.prog 185 = some 8 := by kernel_rfl
@[simp] theorem f_z185 : zT Tryz.prog 185 = some [.nilFunc] := by kernel_rfl
@[simp] theorem f_sz186 : szT Tryz.prog 186 = some 1 := by kernel_rfl
@[simp] theorem f_ag186 : aggT Tryz.prog 186 = some false := by kernel_rfl
@[simp] theorem f_ib186 : isBoolT Tryz.prog 186 = false := by kernel_rfl
@[simp] theorem f_is186 : isSlT Tryz.prog 186 = false := by kernel_rfl
@[simp] theorem f_by186 : byT Tryz.prog 186 = some 8 := by kernel_rfl
@[simp] theorem f_z186 : zT Tryz.prog 186 = some [.int .i64 0] := by kernel_rfl
@[simp] theorem f_sz188 : szT Tryz.prog 188 = some 1 := by kernel_rfl
@[simp] theorem f_ag188 : aggT Tryz.prog 188 = some false := by kernel_rfl
@[simp] theorem f_ib188 : isBoolT Tryz.prog 188 = false := by kernel_rfl
@[simp] theorem f_is188 : isSlT Tryz.prog 188 = false := by kernel_rfl
@[simp] theorem f_by188 : byT Tryz.prog 188 = some 8 := by kernel_rfl
@[simp] theorem f_z188 : zT Tryz.prog 188 = some [.nilFunc] := by kernel_rfl
@[simp] theorem f_sz189 : szT Tryz.prog 189 = some 1 := by kernel_rfl
@[simp] theorem f_ag189 : aggT Tryz.prog 189 = some false := by kernel_rfl
@[simp] theorem f_ib189 : isBoolT Tryz.prog 189 = false := by kernel_rfl
@[simp] theorem f_is189 : isSlT Tryz.prog 189 = false := by kernel_rfl
@[simp] theorem f_by189 : byT Tryz.prog 189 = some 8 := by kernel_rfl
@[simp] theorem f_z189 : zT Tryz.prog 189 = some [.nilFunc] := by kernel_rfl
@[simp] theorem f_sz190 : szT Tryz.prog 190 = some 1 := by kernel_rfl
@[simp] theorem f_ag190 : aggT Tryz.prog 190 = some false := by kernel_rfl
@[simp] theorem f_ib190 : isBoolT Tryz.prog 190 = false := by kernel_rfl
@[simp] theorem f_is190 : isSlT Tryz.prog 190 = false := by kernel_rfl
@[simp] theorem f_by190 : byT Tryz.prog 190 = some 8 := by kernel_rfl
@[simp] theorem f_z190 : zT Tryz.prog 190 = some [.nilFunc] := by kernel_rfl
@[simp] theorem f_sz191 : szT Tryz.prog 191 = some 1 := by kernel_rfl
@[simp] theorem f_ag191 : aggT Tryz.prog 191 = some false := by kernel_rfl
@[simp] theorem f_ib191 : isBoolT Tryz.prog 191 = false := by kernel_rfl
@[simp] theorem f_is191 : isSlT Tryz.prog 191 = false := by kernel_rfl
@[simp] theorem f_by191 : byT Tryz.prog 191 = some 8 := by kernel_rfl
@[simp] theorem f_z191 : zT Tryz.prog 191 = some [.nilFunc] := by kernel_rfl
@[simp] theorem f_sz192 : szT Tryz.prog 192 = some 1 := by kernel_rfl
@[simp] theorem f_ag192 : aggT Tryz.prog 192 = some false := by kernel_rfl
@[simp] theorem f_ib192 : isBoolT Tryz.prog 192 = false := by kernel_rfl
@[simp] theorem f_is192 : isSlT Tryz.prog 192 = false := by kernel_rfl
@[simp] theorem f_by192 : byT Tryz.prog 192 = some 8 := by kernel_rfl
@[simp] theorem f_z192 : zT Tryz.prog 192 = some [.nilFunc] := by kernel_rfl
@[simp] theorem f_sz193 : szT Tryz.prog 193 = some 1 := by kernel_rfl
@[simp] theorem f_ag193 : aggT Tryz.prog 193 = some false := by kernel_rfl
@[simp] theorem f_ib193 : isBoolT Tryz.prog 193 = false := by kernel_rfl
@[simp] theorem f_is193 : isSlT Tryz.prog 193 = false := by kernel_rfl
@[simp] theorem f_by193 : byT Tryz.prog 193 = some 8 := by kernel_rfl
@[simp] theorem f_z193 : zT Tryz.prog 193 = some [.nilFunc] := by kernel_rfl
@[simp] theorem f_sz194 : szT Tryz.prog 194 = some 1 := by kernel_rfl
@[simp] theorem f_ag194 : aggT Tryz.prog 194 = some false := by kernel_rfl
@[simp] theorem f_ib194 : isBoolT Tryz.prog 194 = false := by kernel_rfl
@[simp] theorem f_is194 : isSlT Tryz.prog 194 = false := by kernel_rfl
@[simp] theorem f_by194 : byT Tryz.prog 194 = some 8 := by kernel_rfl
@[simp] theorem f_z194 : zT Tryz.prog 194 = some [.nilFunc] := by kernel_rfl
@[simp] theorem f_sz195 : szT Tryz.prog 195 = some 1 := by kernel_rfl
@[simp] theorem f_ag195 : aggT Tryz.prog 195 = some false := by kernel_rfl
@[simp] theorem f_ib195 : isBoolT Tryz.prog 195 = false := by kernel_rfl
@[simp] theorem f_is195 : isSlT Tryz.prog 195 = false := by kernel_rfl
@[simp] theorem f_by195 : byT Tryz.prog 195 = some 8 := by kernel_rfl
@[simp] theorem f_z195 : zT Tryz.prog 195 = some [.nilFunc] := by kernel_rfl
@[simp] theorem f_sz196 : szT Tryz.prog 196 = some 1 := by kernel_rfl
@[simp] theorem f_ag196 : aggT Tryz.prog 196 = some false := by kernel_rfl
@[simp] theorem f_ib196 : isBoolT Tryz.prog 196 = false := by kernel_rfl
@[simp] theorem f_is196 : isSlT Tryz.prog 196 = false := by kernel_rfl
@[simp] theorem f_by196 : byT Tryz.prog 196 = some 8 := by kernel_rfl
@[simp] theorem f_z196 : zT Tryz.prog 196 = some [.nilFunc] := by kernel_rfl
@[simp] theorem f_sz197 : szT Tryz.prog 197 = some 32 := by kernel_rfl
@[simp] theorem f_ag197 : aggT Tryz.prog 197 = some true := by kernel_rfl
@[simp] theorem f_ib197 : isBoolT Tryz.prog 197 = false := by kernel_rfl
@[simp] theorem f_is197 : isSlT Tryz.prog 197 = false := by kernel_rfl
@[simp] theorem f_z197 : zT Tryz.prog 197 = some (List.replicate 32 (.int .u8 0)) := by kernel_rfl
@[simp] theorem f_ar197 : arT Tryz.prog 197 = some (32, 1) := by kernel_rfl
@[simp] theorem f_arA197 : arA Tryz.prog 197 = some false := by kernel_rfl
@[simp] theorem f_ok197 : fldsOk Tryz.prog 197 = true := by kernel_rfl
@[simp] theorem f_sz198 : szT Tryz.prog 198 = some 64 := by kernel_rfl
@[simp] theorem f_ag198 : aggT Tryz.prog 198 = some true := by kernel_rfl
@[simp] theorem f_ib198 : isBoolT Tryz.prog 198 = false := by kernel_rfl
@[simp] theorem f_is198 : isSlT Tryz.prog 198 = false := by kernel_rfl
@[simp] theorem f_z198 : zT Tryz.prog 198 = some (List.replicate 64 (.int .u8 0)) := by kernel_rfl
@[simp] theorem f_ar198 : arT Tryz.prog 198 = some (64, 1) := by kernel_rfl
@[simp] theorem f_arA198 : arA Tryz.prog 198 = some false := by kernel_rfl
@[simp] theorem f_ok198 : fldsOk Tryz.prog 198 = true := by kernel_rfl
@[simp] theorem f_sz199 : szT Tryz.prog 199 = some 1 := by kernel_rfl
@[simp] theorem f_ag199 : aggT Tryz.prog 199 = some false := by kernel_rfl
@[simp] theorem f_ib199 : isBoolT Tryz.prog 199 = false := by kernel_rfl
@[simp] theorem f_is199 : isSlT Tryz.prog 199 = false := by kernel_rfl
@[simp] theorem f_by199 : byT Tryz.prog 199 = some 8 := by kernel_rfl
@[simp] theorem f_z199 : zT Tryz.prog 199 = some [.nilFunc] := by kernel_rfl
@[simp] theorem f_sz200 : szT Tryz.prog 200 = some 1 := by kernel_rfl
@[simp] theorem f_ag200 : aggT Tryz.prog 200 = some false := by kernel_rfl
@[simp] theorem f_ib200 : isBoolT Tryz.prog 200 = false := by kernel_rfl
@[simp] theorem f_is200 : isSlT Tryz.prog 200 = false := by kernel_rfl
@[simp] theorem f_by200 : byT Tryz.prog 200 = some 8 := by kernel_rfl
@[simp] theorem f_z200 : zT Tryz.prog 200 = some [.int .u64 0] := by kernel_rfl
@[simp] theorem f_sz201 : szT Tryz.prog 201 = some 1 := by kernel_rfl
@[simp] theorem f_ag201 : aggT Tryz.prog 201 = some false := by kernel_rfl
@[simp] theorem f_ib201 : isBoolT Tryz.prog 201 = false := by kernel_rfl
@[simp] theorem f_is201 : isSlT Tryz.prog 201 = false := by kernel_rfl
@[simp] theorem f_by201 : byT Tryz.prog 201 = some 8 := by kernel_rfl
@[simp] theorem f_z201 : zT Tryz.prog 201 = some [.nilFunc] := by kernel_rfl
@[simp] theorem f_sz202 : szT Tryz.prog 202 = some 1 := by kernel_rfl
@[simp] theorem f_ag202 : aggT Tryz.prog 202 = some false := by kernel_rfl
@[simp] theorem f_ib202 : isBoolT Tryz.prog 202 = false := by kernel_rfl
@[simp] theorem f_is202 : isSlT Tryz.prog 202 = false := by kernel_rfl
@[simp] theorem f_by202 : byT Tryz.prog 202 = some 8 := by kernel_rfl
@[simp] theorem f_z202 : zT Tryz.prog 202 = some [.nilFunc] := by kernel_rfl
@[simp] theorem f_sz203 : szT Tryz.prog 203 = some 1 := by kernel_rfl
@[simp] theorem f_ag203 : aggT Tryz.prog 203 = some false := by kernel_rfl
@[simp] theorem f_ib203 : isBoolT Tryz.prog 203 = false := by kernel_rfl
@[simp] theorem f_is203 : isSlT Tryz.prog 203 = false := by kernel_rfl
@[simp] theorem f_by203 : byT Tryz.prog 203 = some 8 := by kernel_rfl
@[simp] theorem f_z203 : zT Tryz.prog 203 = some [.nilFunc] := by kernel_rfl
@[simp] theorem f_sz204 : szT Tryz.prog 204 = some 1 := by kernel_rfl
@[simp] theorem f_ag204 : aggT Tryz.prog 204 = some false := by kernel_rfl
@[simp] theorem f_ib204 : isBoolT Tryz.prog 204 = false := by kernel_rfl
@[simp] theorem f_is204 : isSlT Tryz.prog 204 = false := by kernel_rfl
@[simp] theorem f_by204 : byT Tryz.prog 204 = some 8 := by kernel_rfl
@[simp] theorem f_z204 : zT Tryz.prog 204 = some [.nilFunc] := by kernel_rfl
@[simp] theorem f_sz205 : szT Tryz.prog 205 = some 1 := by kernel_rfl
@[simp] theorem f_ag205 : aggT Tryz.prog 205 = some false := by kernel_rfl
@[simp] theorem f_ib205 : isBoolT Tryz.prog 205 = false := by kernel_rfl
@[simp] theorem f_is205 : isSlT Tryz.prog 205 = false := by kernel_rfl
@[simp] theorem f_by205 : byT Tryz.prog 205 = some 8 := by kernel_rfl
@[simp] theorem f_z205 : zT Tryz.prog 205 = some [.nilFunc] := by kernel_rfl
@[simp] theorem f_sz206 : szT Tryz.prog 206 = some 1 := by kernel_rfl
@[simp] theorem f_ag206 : aggT Tryz.prog 206 = some false := by kernel_rfl
@[simp] theorem f_ib206 : isBoolT Tryz.prog 206 = false := by kernel_rfl
@[simp] theorem f_is206 : isSlT Tryz.prog 206 = false := by kernel_rfl
@[simp] theorem f_by206 : byT Tryz.prog 206 = some 8 := by kernel_rfl
@[simp] theorem f_z206 : zT Tryz.prog 206 = some [.nilFunc] := by kernel_rfl
@[simp] theorem f_sz207 : szT Tryz.prog 207 = some 1 := by kernel_rfl
@[simp] theorem f_ag207 : aggT Tryz.prog 207 = some false := by kernel_rfl
@[simp] theorem f_ib207 : isBoolT Tryz.prog 207 = false := by kernel_rfl
@[simp] theorem f_is207 : isSlT Tryz.prog 207 = false := by kernel_rfl
@[simp] theorem f_by207 : byT Tryz.prog 207 = some 8 := by kernel_rfl
@[simp] theorem f_z207 : zT Tryz.prog 207 = some [.pointer none] := by kernel_rfl
@[simp] theorem f_mp173 : mapT Tryz.prog 173 = some (9, 4) := by kernel_rfl
@[simp] theorem f_kk9 : keyK Tryz.prog 9 = some (.plain .string) := by kernel_rfl
@[simp] theorem f_zv4 : zV Tryz.prog 4 = some (.bool false) := by kernel_rfl
@[simp] theorem f_eq74 : eqT Tryz.prog 74 = some 2 := by kernel_rfl
@[simp] theorem f_eq75 : eqT Tryz.prog 75 = some 2 := by kernel_rfl
@[simp] theorem f_eq123 : eqT Tryz.prog 123 = some 5 := by kernel_rfl
@[simp] theorem f_cv3_172 : cvT Tryz.prog 3 172 = some .u64 := by kernel_rfl
@[simp] theorem f_cv3_200 : cvT Tryz.prog 3 200 = some .u64 := by kernel_rfl
@[simp] theorem f_cv5_3 : cvT Tryz.prog 5 3 = some .i64 := by kernel_rfl
@[simp] theorem f_cv172_3 : cvT Tryz.prog 172 3 = some .i64 := by kernel_rfl
@[simp] theorem f_cv172_180 : cvT Tryz.prog 172 180 = some .u32 := by kernel_rfl
@[simp] theorem f_cv180_5 : cvT Tryz.prog 180 5 = some .u8 := by kernel_rfl
@[simp] theorem f_cv182_5 : cvT Tryz.prog 182 5 = some .u8 := by kernel_rfl
@[simp] theorem nt5 : Tryz.f5.ntmps = 77 := rfl
@[simp] theorem re5 : Tryz.f5.results.toList = [.tmp 4] := rfl
theorem call5 : Callable Tryz.prog 5 := callable_of Tryz.func5 rfl (by kernel_rfl)
@[simp] theorem nt7 : Tryz.f7.ntmps = 127 := rfl
@[simp] theorem re7 : Tryz.f7.results.toList = [.tmp 6] := rfl
theorem call7 : Callable Tryz.prog 7 := callable_of Tryz.func7 rfl (by kernel_rfl)
@[simp] theorem nt9 : Tryz.f9.ntmps = 9 := rfl
@[simp] theorem re9 : Tryz.f9.results.toList = [.tmp 2] := rfl
theorem call9 : Callable Tryz.prog 9 := callable_of Tryz.func9 rfl (by kernel_rfl)
@[simp] theorem nt13 : Tryz.f13.ntmps = 30 := rfl
@[simp] theorem re13 : Tryz.f13.results.toList = [.tmp 0] := rfl
theorem call13 : Callable Tryz.prog 13 := callable_of Tryz.func13 rfl (by kernel_rfl)
@[simp] theorem nt16 : Tryz.f16.ntmps = 40 := rfl
@[simp] theorem re16 : Tryz.f16.results.toList = [.cell 6 37, .tmp 7] := rfl
theorem call16 : Callable Tryz.prog 16 := callable_of Tryz.func16 rfl (by kernel_rfl)
@[simp] theorem nt17 : Tryz.f17.ntmps = 22 := rfl
@[simp] theorem re17 : Tryz.f17.results.toList = [.tmp 2] := rfl
theorem call17 : Callable Tryz.prog 17 := callable_of Tryz.func17 rfl (by kernel_rfl)
@[simp] theorem nt19 : Tryz.f19.ntmps = 6 := rfl
@[simp] theorem re19 : Tryz.f19.results.toList = [.cell 2 44] := rfl
theorem call19 : Callable Tryz.prog 19 := callable_of Tryz.func19 rfl (by kernel_rfl)
@[simp] theorem nt24 : Tryz.f24.ntmps = 9 := rfl
@[simp] theorem re24 : Tryz.f24.results.toList = [.cell 2 37, .cell 3 44] := rfl
theorem call24 : Callable Tryz.prog 24 := callable_of Tryz.func24 rfl (by kernel_rfl)
@[simp] theorem nt25 : Tryz.f25.ntmps = 9 := rfl
@[simp] theorem re25 : Tryz.f25.results.toList = [.tmp 2, .tmp 3] := rfl
theorem call25 : Callable Tryz.prog 25 := callable_of Tryz.func25 rfl (by kernel_rfl)
@[simp] theorem nt26 : Tryz.f26.ntmps = 19 := rfl
@[simp] theorem re26 : Tryz.f26.results.toList = [.cell 2 37, .tmp 3] := rfl
theorem call26 : Callable Tryz.prog 26 := callable_of Tryz.func26 rfl (by kernel_rfl)
@[simp] theorem nt27 : Tryz.f27.ntmps = 31 := rfl
@[simp] theorem re27 : Tryz.f27.results.toList = [.tmp 4] := rfl
theorem call27 : Callable Tryz.prog 27 := callable_of Tryz.func27 rfl (by kernel_rfl)
@[simp] theorem nt28 : Tryz.f28.ntmps = 14 := rfl
@[simp] theorem re28 : Tryz.f28.results.toList = [.tmp 6, .tmp 7] := rfl
theorem call28 : Callable Tryz.prog 28 := callable_of Tryz.func28 rfl (by kernel_rfl)
@[simp] theorem nt30 : Tryz.f30.ntmps = 29 := rfl
@[simp] theorem re30 : Tryz.f30.results.toList = [.tmp 4, .tmp 5] := rfl
theorem call30 : Callable Tryz.prog 30 := callable_of Tryz.func30 rfl (by kernel_rfl)
@[simp] theorem nt31 : Tryz.f31.ntmps = 9 := rfl
@[simp] theorem re31 : Tryz.f31.results.toList = [.tmp 2, .tmp 3] := rfl
theorem call31 : Callable Tryz.prog 31 := callable_of Tryz.func31 rfl (by kernel_rfl)
@[simp] theorem nt32 : Tryz.f32.ntmps = 30 := rfl
@[simp] theorem re32 : Tryz.f32.results.toList = [.tmp 4, .tmp 5] := rfl
theorem call32 : Callable Tryz.prog 32 := callable_of Tryz.func32 rfl (by kernel_rfl)
@[simp] theorem nt33 : Tryz.f33.ntmps = 25 := rfl
@[simp] theorem re33 : Tryz.f33.results.toList = [.tmp 4, .tmp 5, .tmp 6] := rfl
theorem call33 : Callable Tryz.prog 33 := callable_of Tryz.func33 rfl (by kernel_rfl)
@[simp] theorem nt34 : Tryz.f34.ntmps = 35 := rfl
@[simp] theorem re34 : Tryz.f34.results.toList = [.tmp 4, .tmp 5, .tmp 6] := rfl
theorem call34 : Callable Tryz.prog 34 := callable_of Tryz.func34 rfl (by kernel_rfl)
@[simp] theorem nt35 : Tryz.f35.ntmps = 24 := rfl
@[simp] theorem re35 : Tryz.f35.results.toList = [.tmp 4] := rfl
theorem call35 : Callable Tryz.prog 35 := callable_of Tryz.func35 rfl (by kernel_rfl)
@[simp] theorem nt36 : Tryz.f36.ntmps = 25 := rfl
@[simp] theorem re36 : Tryz.f36.results.toList = [.tmp 2] := rfl
theorem call36 : Callable Tryz.prog 36 := callable_of Tryz.func36 rfl (by kernel_rfl)
@[simp] theorem nt37 : Tryz.f37.ntmps = 8 := rfl
@[simp] theorem re37 : Tryz.f37.results.toList = [.tmp 2] := rfl
theorem call37 : Callable Tryz.prog 37 := callable_of Tryz.func37 rfl (by kernel_rfl)
@[simp] theorem nt46 : Tryz.f46.ntmps = 9 := rfl
@[simp] theorem re46 : Tryz.f46.results.toList = [.tmp 2] := rfl
theorem call46 : Callable Tryz.prog 46 := callable_of Tryz.func46 rfl (by kernel_rfl)
@[simp] theorem nt47 : Tryz.f47.ntmps = 44 := rfl
@[simp] theorem re47 : Tryz.f47.results.toList = [.cell 6 37, .tmp 7] := rfl
theorem call47 : Callable Tryz.prog 47 := callable_of Tryz.func47 rfl (by kernel_rfl)
@[simp] theorem nt49 : Tryz.f49.ntmps = 54 := rfl
@[simp] theorem re49 : Tryz.f49.results.toList = [.cell 6 44] := rfl
theorem call49 : Callable Tryz.prog 49 := callable_of Tryz.func49 rfl (by kernel_rfl)
@[simp] theorem nt54 : Tryz.f54.ntmps = 76 := rfl
@[simp] theorem re54 : Tryz.f54.results.toList = [.cell 6 37, .cell 7 44] := rfl
theorem call54 : Callable Tryz.prog 54 := callable_of Tryz.func54 rfl (by kernel_rfl)
@[simp] theorem nt55 : Tryz.f55.ntmps = 6 := rfl
@[simp] theorem re55 : Tryz.f55.results.toList = [.tmp 2] := rfl
theorem call55 : Callable Tryz.prog 55 := callable_of Tryz.func55 rfl (by kernel_rfl)
@[simp] theorem nt56 : Tryz.f56.ntmps = 7 := rfl
@[simp] theorem re56 : Tryz.f56.results.toList = [.tmp 2] := rfl
theorem call56 : Callable Tryz.prog 56 := callable_of Tryz.func56 rfl (by kernel_rfl)
@[simp] theorem nt57 : Tryz.f57.ntmps = 21 := rfl
@[simp] theorem re57 : Tryz.f57.results.toList = [.cell 2 37, .cell 3 4] := rfl
theorem call57 : Callable Tryz.prog 57 := callable_of Tryz.func57 rfl (by kernel_rfl)
@[simp] theorem nt58 : Tryz.f58.ntmps = 32 := rfl
@[simp] theorem re58 : Tryz.f58.results.toList = [.tmp 6] := rfl
theorem call58 : Callable Tryz.prog 58 := callable_of Tryz.func58 rfl (by kernel_rfl)
@[simp] theorem nt59 : Tryz.f59.ntmps = 84 := rfl
@[simp] theorem re59 : Tryz.f59.results.toList = [.tmp 10, .tmp 11] := rfl
theorem call59 : Callable Tryz.prog 59 := callable_of Tryz.func59 rfl (by kernel_rfl)
@[simp] theorem nt62 : Tryz.f62.ntmps = 8 := rfl
@[simp] theorem re62 : Tryz.f62.results.toList = [.tmp 2] := rfl
theorem call62 : Callable Tryz.prog 62 := callable_of Tryz.func62 rfl (by kernel_rfl)
@[simp] theorem nt63 : Tryz.f63.ntmps = 24 := rfl
@[simp] theorem re63 : Tryz.f63.results.toList = [.tmp 2] := rfl
theorem call63 : Callable Tryz.prog 63 := callable_of Tryz.func63 rfl (by kernel_rfl)
@[simp] theorem nt64 : Tryz.f64.ntmps = 57 := rfl
@[simp] theorem re64 : Tryz.f64.results.toList = [.tmp 2, .tmp 3] := rfl
theorem call64 : Callable Tryz.prog 64 := callable_of Tryz.func64 rfl (by kernel_rfl)
@[simp] theorem nt65 : Tryz.f65.ntmps = 36 := rfl
@[simp] theorem re65 : Tryz.f65.results.toList = [.tmp 4] := rfl
theorem call65 : Callable Tryz.prog 65 := callable_of Tryz.func65 rfl (by kernel_rfl)
@[simp] theorem nt66 : Tryz.f66.ntmps = 155 := rfl
@[simp] theorem re66 : Tryz.f66.results.toList = [.tmp 4] := rfl
theorem call66 : Callable Tryz.prog 66 := callable_of Tryz.func66 rfl (by kernel_rfl)
@[simp] theorem nt67 : Tryz.f67.ntmps = 25 := rfl
@[simp] theorem re67 : Tryz.f67.results.toList = [.tmp 4] := rfl
theorem call67 : Callable Tryz.prog 67 := callable_of Tryz.func67 rfl (by kernel_rfl)
@[simp] theorem nt68 : Tryz.f68.ntmps = 21 := rfl
@[simp] theorem re68 : Tryz.f68.results.toList = [.tmp 2, .tmp 3] := rfl
theorem call68 : Callable Tryz.prog 68 := callable_of Tryz.func68 rfl (by kernel_rfl)
@[simp] theorem nt69 : Tryz.f69.ntmps = 26 := rfl
@[simp] theorem re69 : Tryz.f69.results.toList = [.tmp 4] := rfl
theorem call69 : Callable Tryz.prog 69 := callable_of Tryz.func69 rfl (by kernel_rfl)
@[simp] theorem nt70 : Tryz.f70.ntmps = 6 := rfl
@[simp] theorem re70 : Tryz.f70.results.toList = [.tmp 2] := rfl
theorem call70 : Callable Tryz.prog 70 := callable_of Tryz.func70 rfl (by kernel_rfl)
@[simp] theorem nt83 : Tryz.f83.ntmps = 89 := rfl
@[simp] theorem re83 : Tryz.f83.results.toList = [.cell 4 37, .tmp 5] := rfl
theorem call83 : Callable Tryz.prog 83 := callable_of Tryz.func83 rfl (by kernel_rfl)
@[simp] theorem nt84 : Tryz.f84.ntmps = 59 := rfl
@[simp] theorem re84 : Tryz.f84.results.toList = [.cell 6 37, .tmp 7] := rfl
theorem call84 : Callable Tryz.prog 84 := callable_of Tryz.func84 rfl (by kernel_rfl)
@[simp] theorem nt85 : Tryz.f85.ntmps = 10 := rfl
@[simp] theorem re85 : Tryz.f85.results.toList = [.cell 4 37] := rfl
theorem call85 : Callable Tryz.prog 85 := callable_of Tryz.func85 rfl (by kernel_rfl)
@[simp] theorem nt87 : Tryz.f87.ntmps = 69 := rfl
@[simp] theorem re87 : Tryz.f87.results.toList = [.tmp 6] := rfl
theorem call87 : Callable Tryz.prog 87 := callable_of Tryz.func87 rfl (by kernel_rfl)
@[simp] theorem nt88 : Tryz.f88.ntmps = 66 := rfl
@[simp] theorem re88 : Tryz.f88.results.toList = [] := rfl
theorem call88 : Callable Tryz.prog 88 := callable_of Tryz.func88 rfl (by kernel_rfl)
@[simp] theorem nt89 : Tryz.f89.ntmps = 14 := rfl
@[simp] theorem re89 : Tryz.f89.results.toList = [.tmp 2] := rfl
theorem call89 : Callable Tryz.prog 89 := callable_of Tryz.func89 rfl (by kernel_rfl)
@[simp] theorem nt90 : Tryz.f90.ntmps = 17 := rfl
@[simp] theorem re90 : Tryz.f90.results.toList = [] := rfl
theorem call90 : Callable Tryz.prog 90 := callable_of Tryz.func90 rfl (by kernel_rfl)
@[simp] theorem nt91 : Tryz.f91.ntmps = 68 := rfl
@[simp] theorem re91 : Tryz.f91.results.toList = [.cell 4 37] := rfl
theorem call91 : Callable Tryz.prog 91 := callable_of Tryz.func91 rfl (by kernel_rfl)
@[simp] theorem nt92 : Tryz.f92.ntmps = 30 := rfl
@[simp] theorem re92 : Tryz.f92.results.toList = [.tmp 6] := rfl
theorem call92 : Callable Tryz.prog 92 := callable_of Tryz.func92 rfl (by kernel_rfl)
@[simp] theorem nt95 : Tryz.f95.ntmps = 15 := rfl
@[simp] theorem re95 : Tryz.f95.results.toList = [.tmp 6] := rfl
theorem call95 : Callable Tryz.prog 95 := callable_of Tryz.func95 rfl (by kernel_rfl)
@[simp] theorem nt96 : Tryz.f96.ntmps = 9 := rfl
@[simp] theorem re96 : Tryz.f96.results.toList = [.tmp 4] := rfl
theorem call96 : Callable Tryz.prog 96 := callable_of Tryz.func96 rfl (by kernel_rfl)
@[simp] theorem nt97 : Tryz.f97.ntmps = 8 := rfl
@[simp] theorem re97 : Tryz.f97.results.toList = [.tmp 3] := rfl
theorem call97 : Callable Tryz.prog 97 := callable_of Tryz.func97 rfl (by kernel_rfl)
@[simp] theorem nt98 : Tryz.f98.ntmps = 19 := rfl
@[simp] theorem re98 : Tryz.f98.results.toList = [.tmp 6] := rfl
theorem call98 : Callable Tryz.prog 98 := callable_of Tryz.func98 rfl (by kernel_rfl)
@[simp] theorem nt99 : Tryz.f99.ntmps = 8 := rfl
@[simp] theorem re99 : Tryz.f99.results.toList = [.tmp 2] := rfl
theorem call99 : Callable Tryz.prog 99 := callable_of Tryz.func99 rfl (by kernel_rfl)
@[simp] theorem nt100 : Tryz.f100.ntmps = 78 := rfl
@[simp] theorem re100 : Tryz.f100.results.toList = [.tmp 4] := rfl
theorem call100 : Callable Tryz.prog 100 := callable_of Tryz.func100 rfl (by kernel_rfl)
@[simp] theorem nt103 : Tryz.f103.ntmps = 17 := rfl
@[simp] theorem re103 : Tryz.f103.results.toList = [.tmp 2] := rfl
theorem call103 : Callable Tryz.prog 103 := callable_of Tryz.func103 rfl (by kernel_rfl)
@[simp] theorem nt107 : Tryz.f107.ntmps = 14 := rfl
@[simp] theorem re107 : Tryz.f107.results.toList = [.cell 4 90] := rfl
theorem call107 : Callable Tryz.prog 107 := callable_of Tryz.func107 rfl (by kernel_rfl)
@[simp] theorem nt108 : Tryz.f108.ntmps = 33 := rfl
@[simp] theorem re108 : Tryz.f108.results.toList = [.cell 2 37] := rfl
theorem call108 : Callable Tryz.prog 108 := callable_of Tryz.func108 rfl (by kernel_rfl)
@[simp] theorem nt109 : Tryz.f109.ntmps = 18 := rfl
@[simp] theorem re109 : Tryz.f109.results.toList = [.tmp 4] := rfl
theorem call109 : Callable Tryz.prog 109 := callable_of Tryz.func109 rfl (by kernel_rfl)
@[simp] theorem nt110 : Tryz.f110.ntmps = 12 := rfl
@[simp] theorem re110 : Tryz.f110.results.toList = [.tmp 2] := rfl
theorem call110 : Callable Tryz.prog 110 := callable_of Tryz.func110 rfl (by kernel_rfl)
@[simp] theorem nt111 : Tryz.f111.ntmps = 19 := rfl
@[simp] theorem re111 : Tryz.f111.results.toList = [.tmp 4, .tmp 5] := rfl
theorem call111 : Callable Tryz.prog 111 := callable_of Tryz.func111 rfl (by kernel_rfl)
@[simp] theorem nt112 : Tryz.f112.ntmps = 7 := rfl
@[simp] theorem re112 : Tryz.f112.results.toList = [.tmp 2] := rfl
theorem call112 : Callable Tryz.prog 112 := callable_of Tryz.func112 rfl (by kernel_rfl)
@[simp] theorem nt113 : Tryz.f113.ntmps = 22 := rfl
@[simp] theorem re113 : Tryz.f113.results.toList = [.tmp 4] := rfl
theorem call113 : Callable Tryz.prog 113 := callable_of Tryz.func113 rfl (by kernel_rfl)
@[simp] theorem nt114 : Tryz.f114.ntmps = 10 := rfl
@[simp] theorem re114 : Tryz.f114.results.toList = [] := rfl
theorem call114 : Callable Tryz.prog 114 := callable_of Tryz.func114 rfl (by kernel_rfl)
@[simp] theorem nt115 : Tryz.f115.ntmps = 15 := rfl
@[simp] theorem re115 : Tryz.f115.results.toList = [.tmp 2] := rfl
theorem call115 : Callable Tryz.prog 115 := callable_of Tryz.func115 rfl (by kernel_rfl)
@[simp] theorem nt116 : Tryz.f116.ntmps = 38 := rfl
@[simp] theorem re116 : Tryz.f116.results.toList = [.tmp 6] := rfl
theorem call116 : Callable Tryz.prog 116 := callable_of Tryz.func116 rfl (by kernel_rfl)
@[simp] theorem nt118 : Tryz.f118.ntmps = 19 := rfl
@[simp] theorem re118 : Tryz.f118.results.toList = [.tmp 4] := rfl
theorem call118 : Callable Tryz.prog 118 := callable_of Tryz.func118 rfl (by kernel_rfl)
@[simp] theorem nt119 : Tryz.f119.ntmps = 11 := rfl
@[simp] theorem re119 : Tryz.f119.results.toList = [] := rfl
theorem call119 : Callable Tryz.prog 119 := callable_of Tryz.func119 rfl (by kernel_rfl)
@[simp] theorem nt120 : Tryz.f120.ntmps = 8 := rfl
@[simp] theorem re120 : Tryz.f120.results.toList = [.tmp 2] := rfl
theorem call120 : Callable Tryz.prog 120 := callable_of Tryz.func120 rfl (by kernel_rfl)
@[simp] theorem nt121 : Tryz.f121.ntmps = 14 := rfl
@[simp] theorem re121 : Tryz.f121.results.toList = [] := rfl
theorem call121 : Callable Tryz.prog 121 := callable_of Tryz.func121 rfl (by kernel_rfl)
@[simp] theorem nt122 : Tryz.f122.ntmps = 17 := rfl
@[simp] theorem re122 : Tryz.f122.results.toList = [.tmp 4] := rfl
theorem call122 : Callable Tryz.prog 122 := callable_of Tryz.func122 rfl (by kernel_rfl)
@[simp] theorem nt123 : Tryz.f123.ntmps = 66 := rfl
@[simp] theorem re123 : Tryz.f123.results.toList = [.tmp 4] := rfl
theorem call123 : Callable Tryz.prog 123 := callable_of Tryz.func123 rfl (by kernel_rfl)
@[simp] theorem nt124 : Tryz.f124.ntmps = 9 := rfl
@[simp] theorem re124 : Tryz.f124.results.toList = [.tmp 4] := rfl
theorem call124 : Callable Tryz.prog 124 := callable_of Tryz.func124 rfl (by kernel_rfl)
@[simp] theorem nt125 : Tryz.f125.ntmps = 49 := rfl
@[simp] theorem re125 : Tryz.f125.results.toList = [.tmp 6, .tmp 7] := rfl
theorem call125 : Callable Tryz.prog 125 := callable_of Tryz.func125 rfl (by kernel_rfl)
@[simp] theorem nt126 : Tryz.f126.ntmps = 8 := rfl
@[simp] theorem re126 : Tryz.f126.results.toList = [.tmp 2] := rfl
theorem call126 : Callable Tryz.prog 126 := callable_of Tryz.func126 rfl (by kernel_rfl)
@[simp] theorem nt127 : Tryz.f127.ntmps = 20 := rfl
@[simp] theorem re127 : Tryz.f127.results.toList = [] := rfl
theorem call127 : Callable Tryz.prog 127 := callable_of Tryz.func127 rfl (by kernel_rfl)
@[simp] theorem nt128 : Tryz.f128.ntmps = 11 := rfl
@[simp] theorem re128 : Tryz.f128.results.toList = [.tmp 4, .tmp 5] := rfl
theorem call128 : Callable Tryz.prog 128 := callable_of Tryz.func128 rfl (by kernel_rfl)
@[simp] theorem nt129 : Tryz.f129.ntmps = 134 := rfl
@[simp] theorem re129 : Tryz.f129.results.toList = [] := rfl
theorem call129 : Callable Tryz.prog 129 := callable_of Tryz.func129 rfl (by kernel_rfl)
@[simp] theorem nt130 : Tryz.f130.ntmps = 8 := rfl
@[simp] theorem re130 : Tryz.f130.results.toList = [.tmp 2] := rfl
theorem call130 : Callable Tryz.prog 130 := callable_of Tryz.func130 rfl (by kernel_rfl)
@[simp] theorem nt131 : Tryz.f131.ntmps = 148 := rfl
@[simp] theorem re131 : Tryz.f131.results.toList = [] := rfl
theorem call131 : Callable Tryz.prog 131 := callable_of Tryz.func131 rfl (by kernel_rfl)
@[simp] theorem nt132 : Tryz.f132.ntmps = 18 := rfl
@[simp] theorem re132 : Tryz.f132.results.toList = [.tmp 2] := rfl
theorem call132 : Callable Tryz.prog 132 := callable_of Tryz.func132 rfl (by kernel_rfl)
@[simp] theorem nt133 : Tryz.f133.ntmps = 20 := rfl
@[simp] theorem re133 : Tryz.f133.results.toList = [.tmp 4] := rfl
theorem call133 : Callable Tryz.prog 133 := callable_of Tryz.func133 rfl (by kernel_rfl)
@[simp] theorem nt134 : Tryz.f134.ntmps = 36 := rfl
@[simp] theorem re134 : Tryz.f134.results.toList = [.tmp 4] := rfl
theorem call134 : Callable Tryz.prog 134 := callable_of Tryz.func134 rfl (by kernel_rfl)
@[simp] theorem nt136 : Tryz.f136.ntmps = 14 := rfl
@[simp] theorem re136 : Tryz.f136.results.toList = [.tmp 2] := rfl
theorem call136 : Callable Tryz.prog 136 := callable_of Tryz.func136 rfl (by kernel_rfl)
@[simp] theorem nt138 : Tryz.f138.ntmps = 15 := rfl
@[simp] theorem re138 : Tryz.f138.results.toList = [.tmp 4, .tmp 5] := rfl
theorem call138 : Callable Tryz.prog 138 := callable_of Tryz.func138 rfl (by kernel_rfl)
@[simp] theorem nt139 : Tryz.f139.ntmps = 49 := rfl
@[simp] theorem re139 : Tryz.f139.results.toList = [] := rfl
theorem call139 : Callable Tryz.prog 139 := callable_of Tryz.func139 rfl (by kernel_rfl)
@[simp] theorem nt145 : Tryz.f145.ntmps = 17 := rfl
@[simp] theorem re145 : Tryz.f145.results.toList = [.tmp 4] := rfl
theorem call145 : Callable Tryz.prog 145 := callable_of Tryz.func145 rfl (by kernel_rfl)
@[simp] theorem nt148 : Tryz.f148.ntmps = 19 := rfl
@[simp] theorem re148 : Tryz.f148.results.toList = [.tmp 2] := rfl
theorem call148 : Callable Tryz.prog 148 := callable_of Tryz.func148 rfl (by kernel_rfl)
@[simp] theorem nt149 : Tryz.f149.ntmps = 25 := rfl
@[simp] theorem re149 : Tryz.f149.results.toList = [.tmp 2] := rfl
theorem call149 : Callable Tryz.prog 149 := callable_of Tryz.func149 rfl (by kernel_rfl)
@[simp] theorem nt150 : Tryz.f150.ntmps = 53 := rfl
@[simp] theorem re150 : Tryz.f150.results.toList = [] := rfl
theorem call150 : Callable Tryz.prog 150 := callable_of Tryz.func150 rfl (by kernel_rfl)
@[simp] theorem nt158 : Tryz.f158.ntmps = 6 := rfl
@[simp] theorem re158 : Tryz.f158.results.toList = [.tmp 2] := rfl
theorem call158 : Callable Tryz.prog 158 := callable_of Tryz.func158 rfl (by kernel_rfl)
@[simp] theorem nt159 : Tryz.f159.ntmps = 18 := rfl
@[simp] theorem re159 : Tryz.f159.results.toList = [.tmp 4] := rfl
theorem call159 : Callable Tryz.prog 159 := callable_of Tryz.func159 rfl (by kernel_rfl)
end Go.Proofs.YtnikonhkbldnnaaGreatDoor
