import Derived.Test.YtpcmmjmoiplhjaaGreatDoorProg
import Derived.Test.YtpcmmjmoiplhjaaGreatDoorPSC
import Derived.KernelRfl
set_option linter.unusedVariables false
set_option linter.unusedSimpArgs false
set_option maxRecDepth 20000
namespace Go.Proofs.YtpcmmjmoiplhjaaGreatDoor
open Go Go.PS
theorem mixed : Tryz.prog.follows .mixedOrders = true := by kernel_rfl

@[simp] theorem f_sz1 : szT Tryz.prog 1 = some 1 := by kernel_rfl
@[simp] theorem f_ag1 : aggT Tryz.prog 1 = some false := by kernel_rfl
@[simp] theorem f_ib1 : isBoolT Tryz.prog 1 = false := by kernel_rfl
@[simp] theorem f_is1 : isSlT Tryz.prog 1 = false := by kernel_rfl
@[simp] theorem f_by1 : byT Tryz.prog 1 = some 8 := by kernel_rfl
@[simp] theorem f_z1 : zT Tryz.prog 1 = some [.nilFunc] := by kernel_rfl
@[simp] theorem f_sz2 : szT Tryz.prog 2 = some 1 := by kernel_rfl
@[simp] theorem f_ag2 : aggT Tryz.prog 2 = some false := by kernel_rfl
@[simp] theorem f_ib2 : isBoolT Tryz.prog 2 = false := by kernel_rfl
@[simp] theorem f_is2 : isSlT Tryz.prog 2 = false := by kernel_rfl
@[simp] theorem f_by2 : byT Tryz.prog 2 = some 8 := by kernel_rfl
@[simp] theorem f_z2 : zT Tryz.prog 2 = some [.int .i64 0] := by kernel_rfl
@[simp] theorem f_sz3 : szT Tryz.prog 3 = some 1 := by kernel_rfl
@[simp] theorem f_ag3 : aggT Tryz.prog 3 = some false := by kernel_rfl
@[simp] theorem f_ib3 : isBoolT Tryz.prog 3 = false := by kernel_rfl
@[simp] theorem f_is3 : isSlT Tryz.prog 3 = false := by kernel_rfl
@[simp] theorem f_by3 : byT Tryz.prog 3 = some 8 := by kernel_rfl
@[simp] theorem f_z3 : zT Tryz.prog 3 = some [.int .i64 0] := by kernel_rfl
@[simp] theorem f_sz4 : szT Tryz.prog 4 = some 1 := by kernel_rfl
@[simp] theorem f_ag4 : aggT Tryz.prog 4 = some false := by kernel_rfl
@[simp] theorem f_ib4 : isBoolT Tryz.prog 4 = true := by kernel_rfl
@[simp] theorem f_is4 : isSlT Tryz.prog 4 = false := by kernel_rfl
@[simp] theorem f_by4 : byT Tryz.prog 4 = some 1 := by kernel_rfl
@[simp] theorem f_z4 : zT Tryz.prog 4 = some [.bool false] := by kernel_rfl
@[simp] theorem f_sz5 : szT Tryz.prog 5 = some 1 := by kernel_rfl
@[simp] theorem f_ag5 : aggT Tryz.prog 5 = some false := by kernel_rfl
@[simp] theorem f_ib5 : isBoolT Tryz.prog 5 = false := by kernel_rfl
@[simp] theorem f_is5 : isSlT Tryz.prog 5 = false := by kernel_rfl
@[simp] theorem f_by5 : byT Tryz.prog 5 = some 1 := by kernel_rfl
@[simp] theorem f_z5 : zT Tryz.prog 5 = some [.int .u8 0] := by kernel_rfl
@[simp] theorem f_sz6 : szT Tryz.prog 6 = some 1 := by kernel_rfl
@[simp] theorem f_ag6 : aggT Tryz.prog 6 = some false := by kernel_rfl
@[simp] theorem f_ib6 : isBoolT Tryz.prog 6 = false := by kernel_rfl
@[simp] theorem f_is6 : isSlT Tryz.prog 6 = false := by kernel_rfl
@[simp] theorem f_by6 : byT Tryz.prog 6 = some 1 := by kernel_rfl
@[simp] theorem f_z6 : zT Tryz.prog 6 = some [.int .u8 0] := by kernel_rfl
@[simp] theorem f_sz7 : szT Tryz.prog 7 = some 4 := by kernel_rfl
@[simp] theorem f_ag7 : aggT Tryz.prog 7 = some true := by kernel_rfl
@[simp] theorem f_ib7 : isBoolT Tryz.prog 7 = false := by kernel_rfl
@[simp] theorem f_is7 : isSlT Tryz.prog 7 = false := by kernel_rfl
@[simp] theorem f_by7 : byT Tryz.prog 7 = some 24 := by kernel_rfl
@[simp] theorem f_z7 : zT Tryz.prog 7 = some [.int .i64 0, .int .i64 0, .bool false, .int .u8 0] := by kernel_rfl
@[simp] theorem f_ok7 : fldsOk Tryz.prog 7 = true := by kernel_rfl
@[simp] theorem f_fld7_0 : fldT Tryz.prog 7 0 = some (0, 1) := by kernel_rfl
@[simp] theorem f_fldA7_0 : fldA Tryz.prog 7 0 = some false := by kernel_rfl
@[simp] theorem f_pl7_0 : placeT Tryz.prog 7 0 = some (0, 1) := by kernel_rfl
@[simp] theorem f_fld7_1 : fldT Tryz.prog 7 1 = some (1, 1) := by kernel_rfl
@[simp] theorem f_fldA7_1 : fldA Tryz.prog 7 1 = some false := by kernel_rfl
@[simp] theorem f_pl7_1 : placeT Tryz.prog 7 1 = some (1, 1) := by kernel_rfl
@[simp] theorem f_fld7_2 : fldT Tryz.prog 7 2 = some (2, 1) := by kernel_rfl
@[simp] theorem f_fldA7_2 : fldA Tryz.prog 7 2 = some false := by kernel_rfl
@[simp] theorem f_pl7_2 : placeT Tryz.prog 7 2 = some (2, 1) := by kernel_rfl
@[simp] theorem f_fld7_3 : fldT Tryz.prog 7 3 = some (3, 1) := by kernel_rfl
@[simp] theorem f_fldA7_3 : fldA Tryz.prog 7 3 = some false := by kernel_rfl
@[simp] theorem f_pl7_3 : placeT Tryz.prog 7 3 = some (3, 1) := by kernel_rfl
@[simp] theorem f_sz8 : szT Tryz.prog 8 = some 4 := by kernel_rfl
@[simp] theorem f_ag8 : aggT Tryz.prog 8 = some true := by kernel_rfl
@[simp] theorem f_ib8 : isBoolT Tryz.prog 8 = false := by kernel_rfl
@[simp] theorem f_is8 : isSlT Tryz.prog 8 = false := by kernel_rfl
@[simp] theorem f_by8 : byT Tryz.prog 8 = some 24 := by kernel_rfl
@[simp] theorem f_z8 : zT Tryz.prog 8 = some [.int .i64 0, .int .i64 0, .bool false, .int .u8 0] := by kernel_rfl
@[simp] theorem f_ok8 : fldsOk Tryz.prog 8 = true := by kernel_rfl
@[simp] theorem f_fld8_0 : fldT Tryz.prog 8 0 = some (0, 1) := by kernel_rfl
@[simp] theorem f_fldA8_0 : fldA Tryz.prog 8 0 = some false := by kernel_rfl
@[simp] theorem f_pl8_0 : placeT Tryz.prog 8 0 = some (0, 1) := by kernel_rfl
@[simp] theorem f_fld8_1 : fldT Tryz.prog 8 1 = some (1, 1) := by kernel_rfl
@[simp] theorem f_fldA8_1 : fldA Tryz.prog 8 1 = some false := by kernel_rfl
@[simp] theorem f_pl8_1 : placeT Tryz.prog 8 1 = some (1, 1) := by kernel_rfl
@[simp] theorem f_fld8_2 : fldT Tryz.prog 8 2 = some (2, 1) := by kernel_rfl
@[simp] theorem f_fldA8_2 : fldA Tryz.prog 8 2 = some false := by kernel_rfl
@[simp] theorem f_pl8_2 : placeT Tryz.prog 8 2 = some (2, 1) := by kernel_rfl
@[simp] theorem f_fld8_3 : fldT Tryz.prog 8 3 = some (3, 1) := by kernel_rfl
@[simp] theorem f_fldA8_3 : fldA Tryz.prog 8 3 = some false := by kernel_rfl
@[simp] theorem f_pl8_3 : placeT Tryz.prog 8 3 = some (3, 1) := by kernel_rfl
@[simp] theorem f_sz9 : szT Tryz.prog 9 = some 1 := by kernel_rfl
@[simp] theorem f_ag9 : aggT Tryz.prog 9 = some false := by kernel_rfl
@[simp] theorem f_ib9 : isBoolT Tryz.prog 9 = false := by kernel_rfl
@[simp] theorem f_st9 : isStrT Tryz.prog 9 = true := by kernel_rfl
@[simp] theorem f_is9 : isSlT Tryz.prog 9 = false := by kernel_rfl
@[simp] theorem f_by9 : byT Tryz.prog 9 = some 16 := by kernel_rfl
@[simp] theorem f_z9 : zT Tryz.prog 9 = some [.string ByteArray.empty] := by kernel_rfl
@[simp] theorem f_sz10 : szT Tryz.prog 10 = some 1 := by kernel_rfl
@[simp] theorem f_ag10 : aggT Tryz.prog 10 = some false := by kernel_rfl
@[simp] theorem f_ib10 : isBoolT Tryz.prog 10 = false := by kernel_rfl
@[simp] theorem f_st10 : isStrT Tryz.prog 10 = true := by kernel_rfl
@[simp] theorem f_is10 : isSlT Tryz.prog 10 = false := by kernel_rfl
@[simp] theorem f_by10 : byT Tryz.prog 10 = some 16 := by kernel_rfl
@[simp] theorem f_z10 : zT Tryz.prog 10 = some [.string ByteArray.empty] := by kernel_rfl
@[simp] theorem f_sz11 : szT Tryz.prog 11 = some 1 := by kernel_rfl
@[simp] theorem f_ag11 : aggT Tryz.prog 11 = some false := by kernel_rfl
@[simp] theorem f_ib11 : isBoolT Tryz.prog 11 = false := by kernel_rfl
@[simp] theorem f_st11 : isStrT Tryz.prog 11 = true := by kernel_rfl
@[simp] theorem f_is11 : isSlT Tryz.prog 11 = false := by kernel_rfl
@[simp] theorem f_by11 : byT Tryz.prog 11 = some 16 := by kernel_rfl
@[simp] theorem f_z11 : zT Tryz.prog 11 = some [.string ByteArray.empty] := by kernel_rfl
@[simp] theorem f_sz12 : szT Tryz.prog 12 = some 1 := by kernel_rfl
@[simp] theorem f_ag12 : aggT Tryz.prog 12 = some false := by kernel_rfl
@[simp] theorem f_ib12 : isBoolT Tryz.prog 12 = false := by kernel_rfl
@[simp] theorem f_is12 : isSlT Tryz.prog 12 = false := by kernel_rfl
@[simp] theorem f_by12 : byT Tryz.prog 12 = some 8 := by kernel_rfl
@[simp] theorem f_z12 : zT Tryz.prog 12 = some [.int .u64 0] := by kernel_rfl
@[simp] theorem f_sz13 : szT Tryz.prog 13 = some 2 := by kernel_rfl
@[simp] theorem f_ag13 : aggT Tryz.prog 13 = some true := by kernel_rfl
@[simp] theorem f_ib13 : isBoolT Tryz.prog 13 = false := by kernel_rfl
@[simp] theorem f_is13 : isSlT Tryz.prog 13 = false := by kernel_rfl
@[simp] theorem f_by13 : byT Tryz.prog 13 = some 24 := by kernel_rfl
@[simp] theorem f_z13 : zT Tryz.prog 13 = some [.string ByteArray.empty, .int .u64 0] := by kernel_rfl
@[simp] theorem f_ok13 : fldsOk Tryz.prog 13 = true := by kernel_rfl
@[simp] theorem f_fld13_0 : fldT Tryz.prog 13 0 = some (0, 1) := by kernel_rfl
@[simp] theorem f_fldA13_0 : fldA Tryz.prog 13 0 = some false := by kernel_rfl
@[simp] theorem f_pl13_0 : placeT Tryz.prog 13 0 = some (0, 1) := by kernel_rfl
@[simp] theorem f_fld13_1 : fldT Tryz.prog 13 1 = some (1, 1) := by kernel_rfl
@[simp] theorem f_fldA13_1 : fldA Tryz.prog 13 1 = some false := by kernel_rfl
@[simp] theorem f_pl13_1 : placeT Tryz.prog 13 1 = some (1, 1) := by kernel_rfl
@[simp] theorem f_sz14 : szT Tryz.prog 14 = some 2 := by kernel_rfl
@[simp] theorem f_ag14 : aggT Tryz.prog 14 = some true := by kernel_rfl
@[simp] theorem f_ib14 : isBoolT Tryz.prog 14 = false := by kernel_rfl
@[simp] theorem f_is14 : isSlT Tryz.prog 14 = false := by kernel_rfl
@[simp] theorem f_by14 : byT Tryz.prog 14 = some 24 := by kernel_rfl
@[simp] theorem f_z14 : zT Tryz.prog 14 = some [.string ByteArray.empty, .int .u64 0] := by kernel_rfl
@[simp] theorem f_ok14 : fldsOk Tryz.prog 14 = true := by kernel_rfl
@[simp] theorem f_fld14_0 : fldT Tryz.prog 14 0 = some (0, 1) := by kernel_rfl
@[simp] theorem f_fldA14_0 : fldA Tryz.prog 14 0 = some false := by kernel_rfl
@[simp] theorem f_pl14_0 : placeT Tryz.prog 14 0 = some (0, 1) := by kernel_rfl
@[simp] theorem f_fld14_1 : fldT Tryz.prog 14 1 = some (1, 1) := by kernel_rfl
@[simp] theorem f_fldA14_1 : fldA Tryz.prog 14 1 = some false := by kernel_rfl
@[simp] theorem f_pl14_1 : placeT Tryz.prog 14 1 = some (1, 1) := by kernel_rfl
@[simp] theorem f_sz15 : szT Tryz.prog 15 = some 1 := by kernel_rfl
@[simp] theorem f_ag15 : aggT Tryz.prog 15 = some false := by kernel_rfl
@[simp] theorem f_ib15 : isBoolT Tryz.prog 15 = false := by kernel_rfl
@[simp] theorem f_is15 : isSlT Tryz.prog 15 = false := by kernel_rfl
@[simp] theorem f_by15 : byT Tryz.prog 15 = some 8 := by kernel_rfl
@[simp] theorem f_z15 : zT Tryz.prog 15 = some [.pointer none] := by kernel_rfl
@[simp] theorem f_sz16 : szT Tryz.prog 16 = some 1 := by kernel_rfl
@[simp] theorem f_ag16 : aggT Tryz.prog 16 = some false := by kernel_rfl
@[simp] theorem f_ib16 : isBoolT Tryz.prog 16 = false := by kernel_rfl
@[simp] theorem f_is16 : isSlT Tryz.prog 16 = false := by kernel_rfl
@[simp] theorem f_by16 : byT Tryz.prog 16 = some 8 := by kernel_rfl
@[simp] theorem f_z16 : zT Tryz.prog 16 = some [.pointer none] := by kernel_rfl
@[simp] theorem f_sz17 : szT Tryz.prog 17 = some 1 := by kernel_rfl
@[simp] theorem f_ag17 : aggT Tryz.prog 17 = some false := by kernel_rfl
@[simp] theorem f_ib17 : isBoolT Tryz.prog 17 = false := by kernel_rfl
@[simp] theorem f_is17 : isSlT Tryz.prog 17 = false := by kernel_rfl
@[simp] theorem f_by17 : byT Tryz.prog 17 = some 8 := by kernel_rfl
@[simp] theorem f_z17 : zT Tryz.prog 17 = some [.pointer none] := by kernel_rfl
@[simp] theorem f_sz18 : szT Tryz.prog 18 = some 1 := by kernel_rfl
@[simp] theorem f_ag18 : aggT Tryz.prog 18 = some true := by kernel_rfl
@[simp] theorem f_ib18 : isBoolT Tryz.prog 18 = false := by kernel_rfl
@[simp] theorem f_is18 : isSlT Tryz.prog 18 = false := by kernel_rfl
@[simp] theorem f_by18 : byT Tryz.prog 18 = some 8 := by kernel_rfl
@[simp] theorem f_z18 : zT Tryz.prog 18 = some [.pointer none] := by kernel_rfl
@[simp] theorem f_ok18 : fldsOk Tryz.prog 18 = true := by kernel_rfl
@[simp] theorem f_fld18_0 : fldT Tryz.prog 18 0 = some (0, 1) := by kernel_rfl
@[simp] theorem f_fldA18_0 : fldA Tryz.prog 18 0 = some false := by kernel_rfl
@[simp] theorem f_pl18_0 : placeT Tryz.prog 18 0 = some (0, 1) := by kernel_rfl
@[simp] theorem f_sz19 : szT Tryz.prog 19 = some 1 := by kernel_rfl
@[simp] theorem f_ag19 : aggT Tryz.prog 19 = some true := by kernel_rfl
@[simp] theorem f_ib19 : isBoolT Tryz.prog 19 = false := by kernel_rfl
@[simp] theorem f_is19 : isSlT Tryz.prog 19 = false := by kernel_rfl
@[simp] theorem f_by19 : byT Tryz.prog 19 = some 8 := by kernel_rfl
@[simp] theorem f_z19 : zT Tryz.prog 19 = some [.pointer none] := by kernel_rfl
@[simp] theorem f_ok19 : fldsOk Tryz.prog 19 = true := by kernel_rfl
@[simp] theorem f_fld19_0 : fldT Tryz.prog 19 0 = some (0, 1) := by kernel_rfl
@[simp] theorem f_fldA19_0 : fldA Tryz.prog 19 0 = some false := by kernel_rfl
@[simp] theorem f_pl19_0 : placeT Tryz.prog 19 0 = some (0, 1) := by kernel_rfl
@[simp] theorem f_sz21 : szT Tryz.prog 21 = some 1 := by kernel_rfl
@[simp] theorem f_ag21 : aggT Tryz.prog 21 = some false := by kernel_rfl
@[simp] theorem f_ib21 : isBoolT Tryz.prog 21 = false := by kernel_rfl
@[simp] theorem f_is21 : isSlT Tryz.prog 21 = false := by kernel_rfl
@[simp] theorem f_by21 : byT Tryz.prog 21 = some 4 := by kernel_rfl
@[simp] theorem f_z21 : zT Tryz.prog 21 = some [.int .i32 0] := by kernel_rfl
@[simp] theorem f_sz22 : szT Tryz.prog 22 = some 1 := by kernel_rfl
@[simp] theorem f_ag22 : aggT Tryz.prog 22 = some false := by kernel_rfl
@[simp] theorem f_ib22 : isBoolT Tryz.prog 22 = false := by kernel_rfl
@[simp] theorem f_is22 : isSlT Tryz.prog 22 = true := by kernel_rfl
@[simp] theorem f_by22 : byT Tryz.prog 22 = some 24 := by kernel_rfl
@[simp] theorem f_z22 : zT Tryz.prog 22 = some [.slice none 0 0] := by kernel_rfl
@[simp] theorem f_sl22 : slT Tryz.prog 22 = some 4 := by kernel_rfl
@[simp] theorem f_el22 : elT Tryz.prog 22 = some 29 := by kernel_rfl
@[simp] theorem f_sz23 : szT Tryz.prog 23 = some 1 := by kernel_rfl
@[simp] theorem f_ag23 : aggT Tryz.prog 23 = some false := by kernel_rfl
@[simp] theorem f_ib23 : isBoolT Tryz.prog 23 = false := by kernel_rfl
@[simp] theorem f_is23 : isSlT Tryz.prog 23 = false := by kernel_rfl
@[simp] theorem f_by23 : byT Tryz.prog 23 = some 8 := by kernel_rfl
@[simp] theorem f_z23 : zT Tryz.prog 23 = some [.pointer none] := by kernel_rfl
@[simp] theorem f_sz24 : szT Tryz.prog 24 = some 1 := by kernel_rfl
@[simp] theorem f_ag24 : aggT Tryz.prog 24 = some false := by kernel_rfl
@[simp] theorem f_ib24 : isBoolT Tryz.prog 24 = false := by kernel_rfl
@[simp] theorem f_is24 : isSlT Tryz.prog 24 = false := by kernel_rfl
@[simp] theorem f_by24 : byT Tryz.prog 24 = some 8 := by kernel_rfl
@[simp] theorem f_z24 : zT Tryz.prog 24 = some [.pointer none] := by kernel_rfl
@[simp] theorem f_sz26 : szT Tryz.prog 26 = some 1 := by kernel_rfl
@[simp] theorem f_ag26 : aggT Tryz.prog 26 = some false := by kernel_rfl
@[simp] theorem f_ib26 : isBoolT Tryz.prog 26 = false := by kernel_rfl
@[simp] theorem f_is26 : isSlT Tryz.prog 26 = false := by kernel_rfl
@[simp] theorem f_by26 : byT Tryz.prog 26 = some 8 := by kernel_rfl
@[simp] theorem f_z26 : zT Tryz.prog 26 = some [.nilFunc] := by kernel_rfl
@[simp] theorem f_sz27 : szT Tryz.prog 27 = some 1 := by kernel_rfl
@[simp] theorem f_ag27 : aggT Tryz.prog 27 = some false := by kernel_rfl
@[simp] theorem f_ib27 : isBoolT Tryz.prog 27 = false := by kernel_rfl
@[simp] theorem f_is27 : isSlT Tryz.prog 27 = false := by kernel_rfl
@[simp] theorem f_by27 : byT Tryz.prog 27 = some 8 := by kernel_rfl
@[simp] theorem f_z27 : zT Tryz.prog 27 = some [.nilFunc] := by kernel_rfl
@[simp] theorem f_sz28 : szT Tryz.prog 28 = some 4 := by kernel_rfl
@[simp] theorem f_ag28 : aggT Tryz.prog 28 = some true := by kernel_rfl
@[simp] theorem f_ib28 : isBoolT Tryz.prog 28 = false := by kernel_rfl
@[simp] theorem f_is28 : isSlT Tryz.prog 28 = false := by kernel_rfl
@[simp] theorem f_by28 : byT Tryz.prog 28 = some 40 := by kernel_rfl
@[simp] theorem f_z28 : zT Tryz.prog 28 = some [.int .i64 0, .int .i64 0, .int .i64 0, .string ByteArray.empty] := by kernel_rfl
@[simp] theorem f_ok28 : fldsOk Tryz.prog 28 = true := by kernel_rfl
@[simp] theorem f_fld28_0 : fldT Tryz.prog 28 0 = some (0, 1) := by kernel_rfl
@[simp] theorem f_fldA28_0 : fldA Tryz.prog 28 0 = some false := by kernel_rfl
@[simp] theorem f_pl28_0 : placeT Tryz.prog 28 0 = some (0, 1) := by kernel_rfl
@[simp] theorem f_fld28_1 : fldT Tryz.prog 28 1 = some (1, 1) := by kernel_rfl
@[simp] theorem f_fldA28_1 : fldA Tryz.prog 28 1 = some false := by kernel_rfl
@[simp] theorem f_pl28_1 : placeT Tryz.prog 28 1 = some (1, 1) := by kernel_rfl
@[simp] theorem f_fld28_2 : fldT Tryz.prog 28 2 = some (2, 1) := by kernel_rfl
@[simp] theorem f_fldA28_2 : fldA Tryz.prog 28 2 = some false := by kernel_rfl
@[simp] theorem f_pl28_2 : placeT Tryz.prog 28 2 = some (2, 1) := by kernel_rfl
@[simp] theorem f_fld28_3 : fldT Tryz.prog 28 3 = some (3, 1) := by kernel_rfl
@[simp] theorem f_fldA28_3 : fldA Tryz.prog 28 3 = some false := by kernel_rfl
@[simp] theorem f_pl28_3 : placeT Tryz.prog 28 3 = some (3, 1) := by kernel_rfl
@[simp] theorem f_sz29 : szT Tryz.prog 29 = some 4 := by kernel_rfl
@[simp] theorem f_ag29 : aggT Tryz.prog 29 = some true := by kernel_rfl
@[simp] theorem f_ib29 : isBoolT Tryz.prog 29 = false := by kernel_rfl
@[simp] theorem f_is29 : isSlT Tryz.prog 29 = false := by kernel_rfl
@[simp] theorem f_by29 : byT Tryz.prog 29 = some 40 := by kernel_rfl
@[simp] theorem f_z29 : zT Tryz.prog 29 = some [.int .i64 0, .int .i64 0, .int .i64 0, .string ByteArray.empty] := by kernel_rfl
@[simp] theorem f_ok29 : fldsOk Tryz.prog 29 = true := by kernel_rfl
@[simp] theorem f_fld29_0 : fldT Tryz.prog 29 0 = some (0, 1) := by kernel_rfl
@[simp] theorem f_fldA29_0 : fldA Tryz.prog 29 0 = some false := by kernel_rfl
@[simp] theorem f_pl29_0 : placeT Tryz.prog 29 0 = some (0, 1) := by kernel_rfl
@[simp] theorem f_fld29_1 : fldT Tryz.prog 29 1 = some (1, 1) := by kernel_rfl
@[simp] theorem f_fldA29_1 : fldA Tryz.prog 29 1 = some false := by kernel_rfl
@[simp] theorem f_pl29_1 : placeT Tryz.prog 29 1 = some (1, 1) := by kernel_rfl
@[simp] theorem f_fld29_2 : fldT Tryz.prog 29 2 = some (2, 1) := by kernel_rfl
@[simp] theorem f_fldA29_2 : fldA Tryz.prog 29 2 = some false := by kernel_rfl
@[simp] theorem f_pl29_2 : placeT Tryz.prog 29 2 = some (2, 1) := by kernel_rfl
@[simp] theorem f_fld29_3 : fldT Tryz.prog 29 3 = some (3, 1) := by kernel_rfl
@[simp] theorem f_fldA29_3 : fldA Tryz.prog 29 3 = some false := by kernel_rfl
@[simp] theorem f_pl29_3 : placeT Tryz.prog 29 3 = some (3, 1) := by kernel_rfl
@[simp] theorem f_sz30 : szT Tryz.prog 30 = some 1 := by kernel_rfl
@[simp] theorem f_ag30 : aggT Tryz.prog 30 = some false := by kernel_rfl
@[simp] theorem f_ib30 : isBoolT Tryz.prog 30 = false := by kernel_rfl
@[simp] theorem f_is30 : isSlT Tryz.prog 30 = false := by kernel_rfl
@[simp] theorem f_by30 : byT Tryz.prog 30 = some 8 := by kernel_rfl
@[simp] theorem f_z30 : zT Tryz.prog 30 = some [.nilFunc] := by kernel_rfl
@[simp] theorem f_sz31 : szT Tryz.prog 31 = some 1 := by kernel_rfl
@[simp] theorem f_ag31 : aggT Tryz.prog 31 = some false := by kernel_rfl
@[simp] theorem f_ib31 : isBoolT Tryz.prog 31 = false := by kernel_rfl
@[simp] theorem f_is31 : isSlT Tryz.prog 31 = false := by kernel_rfl
@[simp] theorem f_by31 : byT Tryz.prog 31 = some 8 := by kernel_rfl
@[simp] theorem f_z31 : zT Tryz.prog 31 = some [.nilFunc] := by kernel_rfl
@[simp] theorem f_sz32 : szT Tryz.prog 32 = some 1 := by kernel_rfl
@[simp] theorem f_ag32 : aggT Tryz.prog 32 = some false := by kernel_rfl
@[simp] theorem f_ib32 : isBoolT Tryz.prog 32 = false := by kernel_rfl
@[simp] theorem f_is32 : isSlT Tryz.prog 32 = true := by kernel_rfl
@[simp] theorem f_by32 : byT Tryz.prog 32 = some 24 := by kernel_rfl
@[simp] theorem f_z32 : zT Tryz.prog 32 = some [.slice none 0 0] := by kernel_rfl
@[simp] theorem f_sl32 : slT Tryz.prog 32 = some 1 := by kernel_rfl
@[simp] theorem f_el32 : elT Tryz.prog 32 = some 5 := by kernel_rfl
@[simp] theorem f_sz33 : szT Tryz.prog 33 = some 1 := by kernel_rfl
@[simp] theorem f_ag33 : aggT Tryz.prog 33 = some false := by kernel_rfl
@[simp] theorem f_ib33 : isBoolT Tryz.prog 33 = false := by kernel_rfl
@[simp] theorem f_is33 : isSlT Tryz.prog 33 = false := by kernel_rfl
@[simp] theorem f_by33 : byT Tryz.prog 33 = some 8 := by kernel_rfl
@[simp] theorem f_z33 : zT Tryz.prog 33 = some [.int .i64 0] := by kernel_rfl
@[simp] theorem f_sz35 : szT Tryz.prog 35 = some 1 := by kernel_rfl
@[simp] theorem f_ag35 : aggT Tryz.prog 35 = some false := by kernel_rfl
@[simp] theorem f_ib35 : isBoolT Tryz.prog 35 = false := by kernel_rfl
@[simp] theorem f_is35 : isSlT Tryz.prog 35 = false := by kernel_rfl
@[simp] theorem f_by35 : byT Tryz.prog 35 = some 8 := by kernel_rfl
@[simp] theorem f_z35 : zT Tryz.prog 35 = some [.nilFunc] := by kernel_rfl
@[simp] theorem f_sz36 : szT Tryz.prog 36 = some 1 := by kernel_rfl
@[simp] theorem f_ag36 : aggT Tryz.prog 36 = some false := by kernel_rfl
@[simp] theorem f_ib36 : isBoolT Tryz.prog 36 = false := by kernel_rfl
@[simp] theorem f_is36 : isSlT Tryz.prog 36 = false := by kernel_rfl
@[simp] theorem f_by36 : byT Tryz.prog 36 = some 8 := by kernel_rfl
@[simp] theorem f_z36 : zT Tryz.prog 36 = some [.nilFunc] := by kernel_rfl
@[simp] theorem f_sz37 : szT Tryz.prog 37 = some 2 := by kernel_rfl
@[simp] theorem f_ag37 : aggT Tryz.prog 37 = some true := by kernel_rfl
@[simp] theorem f_ib37 : isBoolT Tryz.prog 37 = false := by kernel_rfl
@[simp] theorem f_is37 : isSlT Tryz.prog 37 = false := by kernel_rfl
@[simp] theorem f_by37 : byT Tryz.prog 37 = some 32 := by kernel_rfl
@[simp] theorem f_z37 : zT Tryz.prog 37 = some [.slice none 0 0, .int .i64 0] := by kernel_rfl
@[simp] theorem f_ok37 : fldsOk Tryz.prog 37 = true := by kernel_rfl
@[simp] theorem f_fld37_0 : fldT Tryz.prog 37 0 = some (0, 1) := by kernel_rfl
@[simp] theorem f_fldA37_0 : fldA Tryz.prog 37 0 = some false := by kernel_rfl
@[simp] theorem f_pl37_0 : placeT Tryz.prog 37 0 = some (0, 1) := by kernel_rfl
@[simp] theorem f_fld37_1 : fldT Tryz.prog 37 1 = some (1, 1) := by kernel_rfl
@[simp] theorem f_fldA37_1 : fldA Tryz.prog 37 1 = some false := by kernel_rfl
@[simp] theorem f_pl37_1 : placeT Tryz.prog 37 1 = some (1, 1) := by kernel_rfl
@[simp] theorem f_sz38 : szT Tryz.prog 38 = some 2 := by kernel_rfl
@[simp] theorem f_ag38 : aggT Tryz.prog 38 = some true := by kernel_rfl
@[simp] theorem f_ib38 : isBoolT Tryz.prog 38 = false := by kernel_rfl
@[simp] theorem f_is38 : isSlT Tryz.prog 38 = false := by kernel_rfl
@[simp] theorem f_by38 : byT Tryz.prog 38 = some 32 := by kernel_rfl
@[simp] theorem f_z38 : zT Tryz.prog 38 = some [.slice none 0 0, .int .i64 0] := by kernel_rfl
@[simp] theorem f_ok38 : fldsOk Tryz.prog 38 = true := by kernel_rfl
@[simp] theorem f_fld38_0 : fldT Tryz.prog 38 0 = some (0, 1) := by kernel_rfl
@[simp] theorem f_fldA38_0 : fldA Tryz.prog 38 0 = some false := by kernel_rfl
@[simp] theorem f_pl38_0 : placeT Tryz.prog 38 0 = some (0, 1) := by kernel_rfl
@[simp] theorem f_fld38_1 : fldT Tryz.prog 38 1 = some (1, 1) := by kernel_rfl
@[simp] theorem f_fldA38_1 : fldA Tryz.prog 38 1 = some false := by kernel_rfl
@[simp] theorem f_pl38_1 : placeT Tryz.prog 38 1 = some (1, 1) := by kernel_rfl
@[simp] theorem f_sz39 : szT Tryz.prog 39 = some 4 := by kernel_rfl
@[simp] theorem f_ag39 : aggT Tryz.prog 39 = some true := by kernel_rfl
@[simp] theorem f_ib39 : isBoolT Tryz.prog 39 = false := by kernel_rfl
@[simp] theorem f_is39 : isSlT Tryz.prog 39 = false := by kernel_rfl
@[simp] theorem f_by39 : byT Tryz.prog 39 = some 64 := by kernel_rfl
@[simp] theorem f_z39 : zT Tryz.prog 39 = some [.slice none 0 0, .int .i64 0, .slice none 0 0, .int .i64 0] := by kernel_rfl
@[simp] theorem f_ar39 : arT Tryz.prog 39 = some (2, 2) := by kernel_rfl
@[simp] theorem f_arA39 : arA Tryz.prog 39 = some true := by kernel_rfl
@[simp] theorem f_ok39 : fldsOk Tryz.prog 39 = true := by kernel_rfl
@[simp] theorem f_pl39_0 : placeT Tryz.prog 39 0 = some (0, 2) := by kernel_rfl
@[simp] theorem f_pl39_1 : placeT Tryz.prog 39 1 = some (2, 2) := by kernel_rfl
@[simp] theorem f_sz40 : szT Tryz.prog 40 = some 7 := by kernel_rfl
@[simp] theorem f_ag40 : aggT Tryz.prog 40 = some true := by kernel_rfl
@[simp] theorem f_ib40 : isBoolT Tryz.prog 40 = false := by kernel_rfl
@[simp] theorem f_is40 : isSlT Tryz.prog 40 = false := by kernel_rfl
@[simp] theorem f_by40 : byT Tryz.prog 40 = some 88 := by kernel_rfl
@[simp] theorem f_z40 : zT Tryz.prog 40 = some [.slice none 0 0, .int .i64 0, .slice none 0 0, .int .i64 0, .int .i64 0, .bool false, .int .i64 0] := by kernel_rfl
@[simp] theorem f_ok40 : fldsOk Tryz.prog 40 = true := by kernel_rfl
@[simp] theorem f_fld40_0 : fldT Tryz.prog 40 0 = some (0, 4) := by kernel_rfl
@[simp] theorem f_fldA40_0 : fldA Tryz.prog 40 0 = some true := by kernel_rfl
@[simp] theorem f_pl40_0 : placeT Tryz.prog 40 0 = some (0, 4) := by kernel_rfl
@[simp] theorem f_fld40_1 : fldT Tryz.prog 40 1 = some (4, 1) := by kernel_rfl
@[simp] theorem f_fldA40_1 : fldA Tryz.prog 40 1 = some false := by kernel_rfl
@[simp] theorem f_pl40_1 : placeT Tryz.prog 40 1 = some (4, 1) := by kernel_rfl
@[simp] theorem f_fld40_2 : fldT Tryz.prog 40 2 = some (5, 1) := by kernel_rfl
@[simp] theorem f_fldA40_2 : fldA Tryz.prog 40 2 = some false := by kernel_rfl
@[simp] theorem f_pl40_2 : placeT Tryz.prog 40 2 = some (5, 1) := by kernel_rfl
@[simp] theorem f_fld40_3 : fldT Tryz.prog 40 3 = some (6, 1) := by kernel_rfl
@[simp] theorem f_fldA40_3 : fldA Tryz.prog 40 3 = some false := by kernel_rfl
@[simp] theorem f_pl40_3 : placeT Tryz.prog 40 3 = some (6, 1) := by kernel_rfl
@[simp] theorem f_sz41 : szT Tryz.prog 41 = some 7 := by kernel_rfl
@[simp] theorem f_ag41 : aggT Tryz.prog 41 = some true := by kernel_rfl
@[simp] theorem f_ib41 : isBoolT Tryz.prog 41 = false := by kernel_rfl
@[simp] theorem f_is41 : isSlT Tryz.prog 41 = false := by kernel_rfl
@[simp] theorem f_by41 : byT Tryz.prog 41 = some 88 := by kernel_rfl
@[simp] theorem f_z41 : zT Tryz.prog 41 = some [.slice none 0 0, .int .i64 0, .slice none 0 0, .int .i64 0, .int .i64 0, .bool false, .int .i64 0] := by kernel_rfl
@[simp] theorem f_ok41 : fldsOk Tryz.prog 41 = true := by kernel_rfl
@[simp] theorem f_fld41_0 : fldT Tryz.prog 41 0 = some (0, 4) := by kernel_rfl
@[simp] theorem f_fldA41_0 : fldA Tryz.prog 41 0 = some true := by kernel_rfl
@[simp] theorem f_pl41_0 : placeT Tryz.prog 41 0 = some (0, 4) := by kernel_rfl
@[simp] theorem f_fld41_1 : fldT Tryz.prog 41 1 = some (4, 1) := by kernel_rfl
@[simp] theorem f_fldA41_1 : fldA Tryz.prog 41 1 = some false := by kernel_rfl
@[simp] theorem f_pl41_1 : placeT Tryz.prog 41 1 = some (4, 1) := by kernel_rfl
@[simp] theorem f_fld41_2 : fldT Tryz.prog 41 2 = some (5, 1) := by kernel_rfl
@[simp] theorem f_fldA41_2 : fldA Tryz.prog 41 2 = some false := by kernel_rfl
@[simp] theorem f_pl41_2 : placeT Tryz.prog 41 2 = some (5, 1) := by kernel_rfl
@[simp] theorem f_fld41_3 : fldT Tryz.prog 41 3 = some (6, 1) := by kernel_rfl
@[simp] theorem f_fldA41_3 : fldA Tryz.prog 41 3 = some false := by kernel_rfl
@[simp] theorem f_pl41_3 : placeT Tryz.prog 41 3 = some (6, 1) := by kernel_rfl
@[simp] theorem f_sz42 : szT Tryz.prog 42 = some 1 := by kernel_rfl
@[simp] theorem f_ag42 : aggT Tryz.prog 42 = some false := by kernel_rfl
@[simp] theorem f_ib42 : isBoolT Tryz.prog 42 = false := by kernel_rfl
@[simp] theorem f_is42 : isSlT Tryz.prog 42 = true := by kernel_rfl
@[simp] theorem f_by42 : byT Tryz.prog 42 = some 24 := by kernel_rfl
@[simp] theorem f_z42 : zT Tryz.prog 42 = some [.slice none 0 0] := by kernel_rfl
@[simp] theorem f_sl42 : slT Tryz.prog 42 = some 1 := by kernel_rfl
@[simp] theorem f_el42 : elT Tryz.prog 42 = some 23 := by kernel_rfl
@[simp] theorem f_sz43 : szT Tryz.prog 43 = some 1 := by kernel_rfl
@[simp] theorem f_ag43 : aggT Tryz.prog 43 = some false := by kernel_rfl
@[simp] theorem f_ib43 : isBoolT Tryz.prog 43 = false := by kernel_rfl
@[simp] theorem f_is43 : isSlT Tryz.prog 43 = false := by kernel_rfl
@[simp] theorem f_by43 : byT Tryz.prog 43 = some 8 := by kernel_rfl
@[simp] theorem f_z43 : zT Tryz.prog 43 = some [.nilFunc] := by kernel_rfl
@[simp] theorem f_sz44 : szT Tryz.prog 44 = some 1 := by kernel_rfl
@[simp] theorem f_ag44 : aggT Tryz.prog 44 = some false := by kernel_rfl
@[simp] theorem f_ib44 : isBoolT Tryz.prog 44 = false := by kernel_rfl
@[simp] theorem f_is44 : isSlT Tryz.prog 44 = false := by kernel_rfl
@[simp] theorem f_by44 : byT Tryz.prog 44 = some 8 := by kernel_rfl
@[simp] theorem f_z44 : zT Tryz.prog 44 = some [.nilFunc] := by kernel_rfl
@[simp] theorem f_sz45 : szT Tryz.prog 45 = some 1 := by kernel_rfl
@[simp] theorem f_ag45 : aggT Tryz.prog 45 = some false := by kernel_rfl
@[simp] theorem f_ib45 : isBoolT Tryz.prog 45 = false := by kernel_rfl
@[simp] theorem f_is45 : isSlT Tryz.prog 45 = false := by kernel_rfl
@[simp] theorem f_by45 : byT Tryz.prog 45 = some 8 := by kernel_rfl
@[simp] theorem f_z45 : zT Tryz.prog 45 = some [.pointer none] := by kernel_rfl
@[simp] theorem f_sz47 : szT Tryz.prog 47 = some 1 := by kernel_rfl
@[simp] theorem f_ag47 : aggT Tryz.prog 47 = some false := by kernel_rfl
@[simp] theorem f_ib47 : isBoolT Tryz.prog 47 = false := by kernel_rfl
@[simp] theorem f_is47 : isSlT Tryz.prog 47 = false := by kernel_rfl
@[simp] theorem f_by47 : byT Tryz.prog 47 = some 8 := by kernel_rfl
@[simp] theorem f_z47 : zT Tryz.prog 47 = some [.nilFunc] := by kernel_rfl
@[simp] theorem f_sz48 : szT Tryz.prog 48 = some 1 := by kernel_rfl
@[simp] theorem f_ag48 : aggT Tryz.prog 48 = some false := by kernel_rfl
@[simp] theorem f_ib48 : isBoolT Tryz.prog 48 = false := by kernel_rfl
@[simp] theorem f_is48 : isSlT Tryz.prog 48 = false := by kernel_rfl
@[simp] theorem f_by48 : byT Tryz.prog 48 = some 8 := by kernel_rfl
@[simp] theorem f_z48 : zT Tryz.prog 48 = some [.nilFunc] := by kernel_rfl
@[simp] theorem f_sz49 : szT Tryz.prog 49 = some 1 := by kernel_rfl
@[simp] theorem f_ag49 : aggT Tryz.prog 49 = some false := by kernel_rfl
@[simp] theorem f_ib49 : isBoolT Tryz.prog 49 = false := by kernel_rfl
@[simp] theorem f_is49 : isSlT Tryz.prog 49 = false := by kernel_rfl
@[simp] theorem f_by49 : byT Tryz.prog 49 = some 8 := by kernel_rfl
@[simp] theorem f_z49 : zT Tryz.prog 49 = some [.nilFunc] := by kernel_rfl
@[simp] theorem f_sz50 : szT Tryz.prog 50 = some 1 := by kernel_rfl
@[simp] theorem f_ag50 : aggT Tryz.prog 50 = some false := by kernel_rfl
@[simp] theorem f_ib50 : isBoolT Tryz.prog 50 = false := by kernel_rfl
@[simp] theorem f_is50 : isSlT Tryz.prog 50 = false := by kernel_rfl
@[simp] theorem f_by50 : byT Tryz.prog 50 = some 8 := by kernel_rfl
@[simp] theorem f_z50 : zT Tryz.prog 50 = some [.nilFunc] := by kernel_rfl
@[simp] theorem f_sz51 : szT Tryz.prog 51 = some 1 := by kernel_rfl
@[simp] theorem f_ag51 : aggT Tryz.prog 51 = some false := by kernel_rfl
@[simp] theorem f_ib51 : isBoolT Tryz.prog 51 = false := by kernel_rfl
@[simp] theorem f_is51 : isSlT Tryz.prog 51 = false := by kernel_rfl
@[simp] theorem f_by51 : byT Tryz.prog 51 = some 8 := by kernel_rfl
@[simp] theorem f_z51 : zT Tryz.prog 51 = some [.pointer none] := by kernel_rfl
@[simp] theorem f_sz52 : szT Tryz.prog 52 = some 5 := by kernel_rfl
@[simp] theorem f_ag52 : aggT Tryz.prog 52 = some true := by kernel_rfl
@[simp] theorem f_ib52 : isBoolT Tryz.prog 52 = false := by kernel_rfl
@[simp] theorem f_is52 : isSlT Tryz.prog 52 = false := by kernel_rfl
@[simp] theorem f_by52 : byT Tryz.prog 52 = some 40 := by kernel_rfl
@[simp] theorem f_z52 : zT Tryz.prog 52 = some [.pointer none, .pointer none, .int .i64 0, .int .i64 0, .bool false] := by kernel_rfl
@[simp] theorem f_ok52 : fldsOk Tryz.prog 52 = true := by kernel_rfl
@[simp] theorem f_fld52_0 : fldT Tryz.prog 52 0 = some (0, 1) := by kernel_rfl
@[simp] theorem f_fldA52_0 : fldA Tryz.prog 52 0 = some false := by kernel_rfl
@[simp] theorem f_pl52_0 : placeT Tryz.prog 52 0 = some (0, 1) := by kernel_rfl
@[simp] theorem f_fld52_1 : fldT Tryz.prog 52 1 = some (1, 1) := by kernel_rfl
@[simp] theorem f_fldA52_1 : fldA Tryz.prog 52 1 = some false := by kernel_rfl
@[simp] theorem f_pl52_1 : placeT Tryz.prog 52 1 = some (1, 1) := by kernel_rfl
@[simp] theorem f_fld52_2 : fldT Tryz.prog 52 2 = some (2, 1) := by kernel_rfl
@[simp] theorem f_fldA52_2 : fldA Tryz.prog 52 2 = some false := by kernel_rfl
@[simp] theorem f_pl52_2 : placeT Tryz.prog 52 2 = some (2, 1) := by kernel_rfl
@[simp] theorem f_fld52_3 : fldT Tryz.prog 52 3 = some (3, 1) := by kernel_rfl
@[simp] theorem f_fldA52_3 : fldA Tryz.prog 52 3 = some false := by kernel_rfl
@[simp] theorem f_pl52_3 : placeT Tryz.prog 52 3 = some (3, 1) := by kernel_rfl
@[simp] theorem f_fld52_4 : fldT Tryz.prog 52 4 = some (4, 1) := by kernel_rfl
@[simp] theorem f_fldA52_4 : fldA Tryz.prog 52 4 = some false := by kernel_rfl
@[simp] theorem f_pl52_4 : placeT Tryz.prog 52 4 = some (4, 1) := by kernel_rfl
@[simp] theorem f_sz53 : szT Tryz.prog 53 = some 5 := by kernel_rfl
@[simp] theorem f_ag53 : aggT Tryz.prog 53 = some true := by kernel_rfl
@[simp] theorem f_ib53 : isBoolT Tryz.prog 53 = false := by kernel_rfl
@[simp] theorem f_is53 : isSlT Tryz.prog 53 = false := by kernel_rfl
@[simp] theorem f_by53 : byT Tryz.prog 53 = some 40 := by kernel_rfl
@[simp] theorem f_z53 : zT Tryz.prog 53 = some [.pointer none, .pointer none, .int .i64 0, .int .i64 0, .bool false] := by kernel_rfl
@[simp] theorem f_ok53 : fldsOk Tryz.prog 53 = true := by kernel_rfl
@[simp] theorem f_fld53_0 : fldT Tryz.prog 53 0 = some (0, 1) := by kernel_rfl
@[simp] theorem f_fldA53_0 : fldA Tryz.prog 53 0 = some false := by kernel_rfl
@[simp] theorem f_pl53_0 : placeT Tryz.prog 53 0 = some (0, 1) := by kernel_rfl
@[simp] theorem f_fld53_1 : fldT Tryz.prog 53 1 = some (1, 1) := by kernel_rfl
@[simp] theorem f_fldA53_1 : fldA Tryz.prog 53 1 = some false := by kernel_rfl
@[simp] theorem f_pl53_1 : placeT Tryz.prog 53 1 = some (1, 1) := by kernel_rfl
@[simp] theorem f_fld53_2 : fldT Tryz.prog 53 2 = some (2, 1) := by kernel_rfl
@[simp] theorem f_fldA53_2 : fldA Tryz.prog 53 2 = some false := by kernel_rfl
@[simp] theorem f_pl53_2 : placeT Tryz.prog 53 2 = some (2, 1) := by kernel_rfl
@[simp] theorem f_fld53_3 : fldT Tryz.prog 53 3 = some (3, 1) := by kernel_rfl
@[simp] theorem f_fldA53_3 : fldA Tryz.prog 53 3 = some false := by kernel_rfl
@[simp] theorem f_pl53_3 : placeT Tryz.prog 53 3 = some (3, 1) := by kernel_rfl
@[simp] theorem f_fld53_4 : fldT Tryz.prog 53 4 = some (4, 1) := by kernel_rfl
@[simp] theorem f_fldA53_4 : fldA Tryz.prog 53 4 = some false := by kernel_rfl
@[simp] theorem f_pl53_4 : placeT Tryz.prog 53 4 = some (4, 1) := by kernel_rfl
@[simp] theorem f_sz54 : szT Tryz.prog 54 = some 1 := by kernel_rfl
@[simp] theorem f_ag54 : aggT Tryz.prog 54 = some false := by kernel_rfl
@[simp] theorem f_ib54 : isBoolT Tryz.prog 54 = false := by kernel_rfl
@[simp] theorem f_is54 : isSlT Tryz.prog 54 = true := by kernel_rfl
@[simp] theorem f_by54 : byT Tryz.prog 54 = some 24 := by kernel_rfl
@[simp] theorem f_z54 : zT Tryz.prog 54 = some [.slice none 0 0] := by kernel_rfl
@[simp] theorem f_sl54 : slT Tryz.prog 54 = some 1 := by kernel_rfl
@[simp] theorem f_el54 : elT Tryz.prog 54 = some 45 := by kernel_rfl
@[simp] theorem f_sz56 : szT Tryz.prog 56 = some 1 := by kernel_rfl
@[simp] theorem f_ag56 : aggT Tryz.prog 56 = some false := by kernel_rfl
@[simp] theorem f_ib56 : isBoolT Tryz.prog 56 = false := by kernel_rfl
@[simp] theorem f_is56 : isSlT Tryz.prog 56 = false := by kernel_rfl
@[simp] theorem f_by56 : byT Tryz.prog 56 = some 8 := by kernel_rfl
@[simp] theorem f_z56 : zT Tryz.prog 56 = some [.nilFunc] := by kernel_rfl
@[simp] theorem f_sz57 : szT Tryz.prog 57 = some 1 := by kernel_rfl
@[simp] theorem f_ag57 : aggT Tryz.prog 57 = some false := by kernel_rfl
@[simp] theorem f_ib57 : isBoolT Tryz.prog 57 = false := by kernel_rfl
@[simp] theorem f_is57 : isSlT Tryz.prog 57 = false := by kernel_rfl
@[simp] theorem f_by57 : byT Tryz.prog 57 = some 8 := by kernel_rfl
@[simp] theorem f_z57 : zT Tryz.prog 57 = some [.nilFunc] := by kernel_rfl
@[simp] theorem f_sz58 : szT Tryz.prog 58 = some 1 := by kernel_rfl
@[simp] theorem f_ag58 : aggT Tryz.prog 58 = some false := by kernel_rfl
@[simp] theorem f_ib58 : isBoolT Tryz.prog 58 = false := by kernel_rfl
@[simp] theorem f_is58 : isSlT Tryz.prog 58 = true := by kernel_rfl
@[simp] theorem f_by58 : byT Tryz.prog 58 = some 24 := by kernel_rfl
@[simp] theorem f_z58 : zT Tryz.prog 58 = some [.slice none 0 0] := by kernel_rfl
@[simp] theorem f_sl58 : slT Tryz.prog 58 = some 1 := by kernel_rfl
@[simp] theorem f_el58 : elT Tryz.prog 58 = some 9 := by kernel_rfl
@[simp] theorem f_sz59 : szT Tryz.prog 59 = some 1 := by kernel_rfl
@[simp] theorem f_ag59 : aggT Tryz.prog 59 = some false := by kernel_rfl
@[simp] theorem f_ib59 : isBoolT Tryz.prog 59 = false := by kernel_rfl
@[simp] theorem f_is59 : isSlT Tryz.prog 59 = false := by kernel_rfl
@[simp] theorem f_by59 : byT Tryz.prog 59 = some 8 := by kernel_rfl
@[simp] theorem f_z59 : zT Tryz.prog 59 = some [.nilFunc] := by kernel_rfl
@[simp] theorem f_sz60 : szT Tryz.prog 60 = some 1 := by kernel_rfl
@[simp] theorem f_ag60 : aggT Tryz.prog 60 = some false := by kernel_rfl
@[simp] theorem f_ib60 : isBoolT Tryz.prog 60 = false := by kernel_rfl
@[simp] theorem f_is60 : isSlT Tryz.prog 60 = false := by kernel_rfl
@[simp] theorem f_by60 : byT Tryz.prog 60 = some 8 := by kernel_rfl
@[simp] theorem f_z60 : zT Tryz.prog 60 = some [.nilFunc] := by kernel_rfl
@[simp] theorem f_sz61 : szT Tryz.prog 61 = some 1 := by kernel_rfl
@[simp] theorem f_ag61 : aggT Tryz.prog 61 = some false := by kernel_rfl
@[simp] theorem f_ib61 : isBoolT Tryz.prog 61 = false := by kernel_rfl
@[simp] theorem f_is61 : isSlT Tryz.prog 61 = false := by kernel_rfl
@[simp] theorem f_by61 : byT Tryz.prog 61 = some 8 := by kernel_rfl
@[simp] theorem f_z61 : zT Tryz.prog 61 = some [.nilFunc] := by kernel_rfl
@[simp] theorem f_sz62 : szT Tryz.prog 62 = some 1 := by kernel_rfl
@[simp] theorem f_ag62 : aggT Tryz.prog 62 = some false := by kernel_rfl
@[simp] theorem f_ib62 : isBoolT Tryz.prog 62 = false := by kernel_rfl
@[simp] theorem f_is62 : isSlT Tryz.prog 62 = false := by kernel_rfl
@[simp] theorem f_by62 : byT Tryz.prog 62 = some 8 := by kernel_rfl
@[simp] theorem f_z62 : zT Tryz.prog 62 = some [.nilFunc] := by kernel_rfl
@[simp] theorem f_sz64 : szT Tryz.prog 64 = some 1 := by kernel_rfl
@[simp] theorem f_ag64 : aggT Tryz.prog 64 = some false := by kernel_rfl
@[simp] theorem f_ib64 : isBoolT Tryz.prog 64 = false := by kernel_rfl
@[simp] theorem f_is64 : isSlT Tryz.prog 64 = false := by kernel_rfl
@[simp] theorem f_by64 : byT Tryz.prog 64 = some 8 := by kernel_rfl
@[simp] theorem f_z64 : zT Tryz.prog 64 = some [.nilFunc] := by kernel_rfl
@[simp] theorem f_sz66 : szT Tryz.prog 66 = some 1 := by kernel_rfl
@[simp] theorem f_ag66 : aggT Tryz.prog 66 = some false := by kernel_rfl
@[simp] theorem f_ib66 : isBoolT Tryz.prog 66 = false := by kernel_rfl
@[simp] theorem f_is66 : isSlT Tryz.prog 66 = false := by kernel_rfl
@[simp] theorem f_by66 : byT Tryz.prog 66 = some 8 := by kernel_rfl
@[simp] theorem f_z66 : zT Tryz.prog 66 = some [.nilFunc] := by kernel_rfl
@[simp] theorem f_sz67 : szT Tryz.prog 67 = some 2 := by kernel_rfl
@[simp] theorem f_ag67 : aggT Tryz.prog 67 = some true := by kernel_rfl
@[simp] theorem f_ib67 : isBoolT Tryz.prog 67 = false := by kernel_rfl
@[simp] theorem f_is67 : isSlT Tryz.prog 67 = false := by kernel_rfl
@[simp] theorem f_by67 : byT Tryz.prog 67 = some 48 := by kernel_rfl
@[simp] theorem f_z67 : zT Tryz.prog 67 = some [.slice none 0 0, .slice none 0 0] := by kernel_rfl
@[simp] theorem f_ar67 : arT Tryz.prog 67 = some (2, 1) := by kernel_rfl
@[simp] theorem f_arA67 : arA Tryz.prog 67 = some false := by kernel_rfl
@[simp] theorem f_ok67 : fldsOk Tryz.prog 67 = true := by kernel_rfl
@[simp] theorem f_pl67_0 : placeT Tryz.prog 67 0 = some (0, 1) := by kernel_rfl
@[simp] theorem f_pl67_1 : placeT Tryz.prog 67 1 = some (1, 1) := by kernel_rfl
@[simp] theorem f_sz68 : szT Tryz.prog 68 = some 2 := by kernel_rfl
@[simp] theorem f_ag68 : aggT Tryz.prog 68 = some true := by kernel_rfl
@[simp] theorem f_ib68 : isBoolT Tryz.prog 68 = false := by kernel_rfl
@[simp] theorem f_is68 : isSlT Tryz.prog 68 = false := by kernel_rfl
@[simp] theorem f_by68 : byT Tryz.prog 68 = some 16 := by kernel_rfl
@[simp] theorem f_z68 : zT Tryz.prog 68 = some [.int .i64 0, .int .i64 0] := by kernel_rfl
@[simp] theorem f_ar68 : arT Tryz.prog 68 = some (2, 1) := by kernel_rfl
@[simp] theorem f_arA68 : arA Tryz.prog 68 = some false := by kernel_rfl
@[simp] theorem f_ok68 : fldsOk Tryz.prog 68 = true := by kernel_rfl
@[simp] theorem f_pl68_0 : placeT Tryz.prog 68 0 = some (0, 1) := by kernel_rfl
@[simp] theorem f_pl68_1 : placeT Tryz.prog 68 1 = some (1, 1) := by kernel_rfl
@[simp] theorem f_sz69 : szT Tryz.prog 69 = some 7 := by kernel_rfl
@[simp] theorem f_ag69 : aggT Tryz.prog 69 = some true := by kernel_rfl
@[simp] theorem f_ib69 : isBoolT Tryz.prog 69 = false := by kernel_rfl
@[simp] theorem f_is69 : isSlT Tryz.prog 69 = false := by kernel_rfl
@[simp] theorem f_by69 : byT Tryz.prog 69 = some 88 := by kernel_rfl
@[simp] theorem f_z69 : zT Tryz.prog 69 = some [.int .i64 0, .slice none 0 0, .slice none 0 0, .int .i64 0, .int .i64 0, .bool false, .int .i64 0] := by kernel_rfl
@[simp] theorem f_ok69 : fldsOk Tryz.prog 69 = true := by kernel_rfl
@[simp] theorem f_fld69_0 : fldT Tryz.prog 69 0 = some (0, 1) := by kernel_rfl
@[simp] theorem f_fldA69_0 : fldA Tryz.prog 69 0 = some false := by kernel_rfl
@[simp] theorem f_pl69_0 : placeT Tryz.prog 69 0 = some (0, 1) := by kernel_rfl
@[simp] theorem f_fld69_1 : fldT Tryz.prog 69 1 = some (1, 2) := by kernel_rfl
@[simp] theorem f_fldA69_1 : fldA Tryz.prog 69 1 = some true := by kernel_rfl
@[simp] theorem f_pl69_1 : placeT Tryz.prog 69 1 = some (1, 2) := by kernel_rfl
@[simp] theorem f_fld69_2 : fldT Tryz.prog 69 2 = some (3, 2) := by kernel_rfl
@[simp] theorem f_fldA69_2 : fldA Tryz.prog 69 2 = some true := by kernel_rfl
@[simp] theorem f_pl69_2 : placeT Tryz.prog 69 2 = some (3, 2) := by kernel_rfl
@[simp] theorem f_fld69_3 : fldT Tryz.prog 69 3 = some (5, 1) := by kernel_rfl
@[simp] theorem f_fldA69_3 : fldA Tryz.prog 69 3 = some false := by kernel_rfl
@[simp] theorem f_pl69_3 : placeT Tryz.prog 69 3 = some (5, 1) := by kernel_rfl
@[simp] theorem f_fld69_4 : fldT Tryz.prog 69 4 = some (6, 1) := by kernel_rfl
@[simp] theorem f_fldA69_4 : fldA Tryz.prog 69 4 = some false := by kernel_rfl
@[simp] theorem f_pl69_4 : placeT Tryz.prog 69 4 = some (6, 1) := by kernel_rfl
@[simp] theorem f_sz70 : szT Tryz.prog 70 = some 7 := by kernel_rfl
@[simp] theorem f_ag70 : aggT Tryz.prog 70 = some true := by kernel_rfl
@[simp] theorem f_ib70 : isBoolT Tryz.prog 70 = false := by kernel_rfl
@[simp] theorem f_is70 : isSlT Tryz.prog 70 = false := by kernel_rfl
@[simp] theorem f_by70 : byT Tryz.prog 70 = some 88 := by kernel_rfl
@[simp] theorem f_z70 : zT Tryz.prog 70 = some [.int .i64 0, .slice none 0 0, .slice none 0 0, .int .i64 0, .int .i64 0, .bool false, .int .i64 0] := by kernel_rfl
@[simp] theorem f_ok70 : fldsOk Tryz.prog 70 = true := by kernel_rfl
@[simp] theorem f_fld70_0 : fldT Tryz.prog 70 0 = some (0, 1) := by kernel_rfl
@[simp] theorem f_fldA70_0 : fldA Tryz.prog 70 0 = some false := by kernel_rfl
@[simp] theorem f_pl70_0 : placeT Tryz.prog 70 0 = some (0, 1) := by kernel_rfl
@[simp] theorem f_fld70_1 : fldT Tryz.prog 70 1 = some (1, 2) := by kernel_rfl
@[simp] theorem f_fldA70_1 : fldA Tryz.prog 70 1 = some true := by kernel_rfl
@[simp] theorem f_pl70_1 : placeT Tryz.prog 70 1 = some (1, 2) := by kernel_rfl
@[simp] theorem f_fld70_2 : fldT Tryz.prog 70 2 = some (3, 2) := by kernel_rfl
@[simp] theorem f_fldA70_2 : fldA Tryz.prog 70 2 = some true := by kernel_rfl
@[simp] theorem f_pl70_2 : placeT Tryz.prog 70 2 = some (3, 2) := by kernel_rfl
@[simp] theorem f_fld70_3 : fldT Tryz.prog 70 3 = some (5, 1) := by kernel_rfl
@[simp] theorem f_fldA70_3 : fldA Tryz.prog 70 3 = some false := by kernel_rfl
@[simp] theorem f_pl70_3 : placeT Tryz.prog 70 3 = some (5, 1) := by kernel_rfl
@[simp] theorem f_fld70_4 : fldT Tryz.prog 70 4 = some (6, 1) := by kernel_rfl
@[simp] theorem f_fldA70_4 : fldA Tryz.prog 70 4 = some false := by kernel_rfl
@[simp] theorem f_pl70_4 : placeT Tryz.prog 70 4 = some (6, 1) := by kernel_rfl
@[simp] theorem f_sz71 : szT Tryz.prog 71 = some 1 := by kernel_rfl
@[simp] theorem f_ag71 : aggT Tryz.prog 71 = some false := by kernel_rfl
@[simp] theorem f_ib71 : isBoolT Tryz.prog 71 = false := by kernel_rfl
@[simp] theorem f_is71 : isSlT Tryz.prog 71 = false := by kernel_rfl
@[simp] theorem f_by71 : byT Tryz.prog 71 = some 8 := by kernel_rfl
@[simp] theorem f_z71 : zT Tryz.prog 71 = some [.nilFunc] := by kernel_rfl
@[simp] theorem f_sz72 : szT Tryz.prog 72 = some 1 := by kernel_rfl
@[simp] theorem f_ag72 : aggT Tryz.prog 72 = some false := by kernel_rfl
@[simp] theorem f_ib72 : isBoolT Tryz.prog 72 = false := by kernel_rfl
@[simp] theorem f_is72 : isSlT Tryz.prog 72 = false := by kernel_rfl
@[simp] theorem f_by72 : byT Tryz.prog 72 = some 8 := by kernel_rfl
@[simp] theorem f_z72 : zT Tryz.prog 72 = some [.pointer none] := by kernel_rfl
@[simp] theorem f_sz73 : szT Tryz.prog 73 = some 3 := by kernel_rfl
@[simp] theorem f_ag73 : aggT Tryz.prog 73 = some true := by kernel_rfl
@[simp] theorem f_ib73 : isBoolT Tryz.prog 73 = false := by kernel_rfl
@[simp] theorem f_is73 : isSlT Tryz.prog 73 = false := by kernel_rfl
@[simp] theorem f_by73 : byT Tryz.prog 73 = some 24 := by kernel_rfl
@[simp] theorem f_z73 : zT Tryz.prog 73 = some [.int .i64 0, .int .i64 0, .pointer none] := by kernel_rfl
@[simp] theorem f_ok73 : fldsOk Tryz.prog 73 = true := by kernel_rfl
@[simp] theorem f_fld73_0 : fldT Tryz.prog 73 0 = some (0, 1) := by kernel_rfl
@[simp] theorem f_fldA73_0 : fldA Tryz.prog 73 0 = some false := by kernel_rfl
@[simp] theorem f_pl73_0 : placeT Tryz.prog 73 0 = some (0, 1) := by kernel_rfl
@[simp] theorem f_fld73_1 : fldT Tryz.prog 73 1 = some (1, 1) := by kernel_rfl
@[simp] theorem f_fldA73_1 : fldA Tryz.prog 73 1 = some false := by kernel_rfl
@[simp] theorem f_pl73_1 : placeT Tryz.prog 73 1 = some (1, 1) := by kernel_rfl
@[simp] theorem f_fld73_2 : fldT Tryz.prog 73 2 = some (2, 1) := by kernel_rfl
@[simp] theorem f_fldA73_2 : fldA Tryz.prog 73 2 = some false := by kernel_rfl
@[simp] theorem f_pl73_2 : placeT Tryz.prog 73 2 = some (2, 1) := by kernel_rfl
@[simp] theorem f_sz74 : szT Tryz.prog 74 = some 3 := by kernel_rfl
@[simp] theorem f_ag74 : aggT Tryz.prog 74 = some true := by kernel_rfl
@[simp] theorem f_ib74 : isBoolT Tryz.prog 74 = false := by kernel_rfl
@[simp] theorem f_is74 : isSlT Tryz.prog 74 = false := by kernel_rfl
@[simp] theorem f_by74 : byT Tryz.prog 74 = some 24 := by kernel_rfl
@[simp] theorem f_z74 : zT Tryz.prog 74 = some [.int .i64 0, .int .i64 0, .pointer none] := by kernel_rfl
@[simp] theorem f_ok74 : fldsOk Tryz.prog 74 = true := by kernel_rfl
@[simp] theorem f_fld74_0 : fldT Tryz.prog 74 0 = some (0, 1) := by kernel_rfl
@[simp] theorem f_fldA74_0 : fldA Tryz.prog 74 0 = some false := by kernel_rfl
@[simp] theorem f_pl74_0 : placeT Tryz.prog 74 0 = some (0, 1) := by kernel_rfl
@[simp] theorem f_fld74_1 : fldT Tryz.prog 74 1 = some (1, 1) := by kernel_rfl
@[simp] theorem f_fldA74_1 : fldA Tryz.prog 74 1 = some false := by kernel_rfl
@[simp] theorem f_pl74_1 : placeT Tryz.prog 74 1 = some (1, 1) := by kernel_rfl
@[simp] theorem f_fld74_2 : fldT Tryz.prog 74 2 = some (2, 1) := by kernel_rfl
@[simp] theorem f_fldA74_2 : fldA Tryz.prog 74 2 = some false := by kernel_rfl
@[simp] theorem f_pl74_2 : placeT Tryz.prog 74 2 = some (2, 1) := by kernel_rfl
@[simp] theorem f_sz75 : szT Tryz.prog 75 = some 6 := by kernel_rfl
@[simp] theorem f_ag75 : aggT Tryz.prog 75 = some true := by kernel_rfl
@[simp] theorem f_ib75 : isBoolT Tryz.prog 75 = false := by kernel_rfl
@[simp] theorem f_is75 : isSlT Tryz.prog 75 = false := by kernel_rfl
@[simp] theorem f_by75 : byT Tryz.prog 75 = some 48 := by kernel_rfl
@[simp] theorem f_z75 : zT Tryz.prog 75 = some [.int .i64 0, .int .i64 0, .pointer none, .int .i64 0, .int .i64 0, .pointer none] := by kernel_rfl
@[simp] theorem f_ar75 : arT Tryz.prog 75 = some (2, 3) := by kernel_rfl
@[simp] theorem f_arA75 : arA Tryz.prog 75 = some true := by kernel_rfl
@[simp] theorem f_ok75 : fldsOk Tryz.prog 75 = true := by kernel_rfl
@[simp] theorem f_pl75_0 : placeT Tryz.prog 75 0 = some (0, 3) := by kernel_rfl
@[simp] theorem f_pl75_1 : placeT Tryz.prog 75 1 = some (3, 3) := by kernel_rfl
@[simp] theorem f_sz77 : szT Tryz.prog 77 = some 1 := by kernel_rfl
@[simp] theorem f_ag77 : aggT Tryz.prog 77 = some false := by kernel_rfl
@[simp] theorem f_ib77 : isBoolT Tryz.prog 77 = false := by kernel_rfl
@[simp] theorem f_is77 : isSlT Tryz.prog 77 = false := by kernel_rfl
@[simp] theorem f_by77 : byT Tryz.prog 77 = some 8 := by kernel_rfl
@[simp] theorem f_z77 : zT Tryz.prog 77 = some [.nilFunc] := by kernel_rfl
@[simp] theorem f_sz78 : szT Tryz.prog 78 = some 1 := by kernel_rfl
@[simp] theorem f_ag78 : aggT Tryz.prog 78 = some false := by kernel_rfl
@[simp] theorem f_ib78 : isBoolT Tryz.prog 78 = false := by kernel_rfl
@[simp] theorem f_is78 : isSlT Tryz.prog 78 = false := by kernel_rfl
@[simp] theorem f_by78 : byT Tryz.prog 78 = some 8 := by kernel_rfl
@[simp] theorem f_z78 : zT Tryz.prog 78 = some [.nilFunc] := by kernel_rfl
@[simp] theorem f_sz79 : szT Tryz.prog 79 = some 1 := by kernel_rfl
@[simp] theorem f_ag79 : aggT Tryz.prog 79 = some false := by kernel_rfl
@[simp] theorem f_ib79 : isBoolT Tryz.prog 79 = false := by kernel_rfl
@[simp] theorem f_is79 : isSlT Tryz.prog 79 = false := by kernel_rfl
@[simp] theorem f_by79 : byT Tryz.prog 79 = some 8 := by kernel_rfl
@[simp] theorem f_z79 : zT Tryz.prog 79 = some [.nilFunc] := by kernel_rfl
@[simp] theorem f_sz80 : szT Tryz.prog 80 = some 1 := by kernel_rfl
@[simp] theorem f_ag80 : aggT Tryz.prog 80 = some false := by kernel_rfl
@[simp] theorem f_ib80 : isBoolT Tryz.prog 80 = false := by kernel_rfl
@[simp] theorem f_is80 : isSlT Tryz.prog 80 = false := by kernel_rfl
@[simp] theorem f_by80 : byT Tryz.prog 80 = some 8 := by kernel_rfl
@[simp] theorem f_z80 : zT Tryz.prog 80 = some [.nilFunc] := by kernel_rfl
@[simp] theorem f_sz82 : szT Tryz.prog 82 = some 1 := by kernel_rfl
@[simp] theorem f_ag82 : aggT Tryz.prog 82 = some false := by kernel_rfl
@[simp] theorem f_ib82 : isBoolT Tryz.prog 82 = false := by kernel_rfl
@[simp] theorem f_is82 : isSlT Tryz.prog 82 = false := by kernel_rfl
@[simp] theorem f_by82 : byT Tryz.prog 82 = some 8 := by kernel_rfl
@[simp] theorem f_z82 : zT Tryz.prog 82 = some [.nilFunc] := by kernel_rfl
@[simp] theorem f_sz83 : szT Tryz.prog 83 = some 1 := by kernel_rfl
@[simp] theorem f_ag83 : aggT Tryz.prog 83 = some false := by kernel_rfl
@[simp] theorem f_ib83 : isBoolT Tryz.prog 83 = false := by kernel_rfl
@[simp] theorem f_is83 : isSlT Tryz.prog 83 = false := by kernel_rfl
@[simp] theorem f_by83 : byT Tryz.prog 83 = some 8 := by kernel_rfl
@[simp] theorem f_z83 : zT Tryz.prog 83 = some [.nilFunc] := by kernel_rfl
@[simp] theorem f_sz84 : szT Tryz.prog 84 = some 1 := by kernel_rfl
@[simp] theorem f_ag84 : aggT Tryz.prog 84 = some false := by kernel_rfl
@[simp] theorem f_ib84 : isBoolT Tryz.prog 84 = false := by kernel_rfl
@[simp] theorem f_is84 : isSlT Tryz.prog 84 = true := by kernel_rfl
@[simp] theorem f_by84 : byT Tryz.prog 84 = some 24 := by kernel_rfl
@[simp] theorem f_z84 : zT Tryz.prog 84 = some [.slice none 0 0] := by kernel_rfl
@[simp] theorem f_sl84 : slT Tryz.prog 84 = some 1 := by kernel_rfl
@[simp] theorem f_el84 : elT Tryz.prog 84 = some 3 := by kernel_rfl
@[simp] theorem f_sz85 : szT Tryz.prog 85 = some 1 := by kernel_rfl
@[simp] theorem f_ag85 : aggT Tryz.prog 85 = some false := by kernel_rfl
@[simp] theorem f_ib85 : isBoolT Tryz.prog 85 = false := by kernel_rfl
@[simp] theorem f_is85 : isSlT Tryz.prog 85 = false := by kernel_rfl
@[simp] theorem f_by85 : byT Tryz.prog 85 = some 8 := by kernel_rfl
@[simp] theorem f_z85 : zT Tryz.prog 85 = some [.nilFunc] := by kernel_rfl
@[simp] theorem f_sz87 : szT Tryz.prog 87 = some 1 := by kernel_rfl
@[simp] theorem f_ag87 : aggT Tryz.prog 87 = some false := by kernel_rfl
@[simp] theorem f_ib87 : isBoolT Tryz.prog 87 = false := by kernel_rfl
@[simp] theorem f_is87 : isSlT Tryz.prog 87 = false := by kernel_rfl
@[simp] theorem f_by87 : byT Tryz.prog 87 = some 8 := by kernel_rfl
@[simp] theorem f_z87 : zT Tryz.prog 87 = some [.nilFunc] := by kernel_rfl
@[simp] theorem f_sz89 : szT Tryz.prog 89 = some 1 := by kernel_rfl
@[simp] theorem f_ag89 : aggT Tryz.prog 89 = some false := by kernel_rfl
@[simp] theorem f_ib89 : isBoolT Tryz.prog 89 = false := by kernel_rfl
@[simp] theorem f_is89 : isSlT Tryz.prog 89 = false := by kernel_rfl
@[simp] theorem f_by89 : byT Tryz.prog 89 = some 8 := by kernel_rfl
@[simp] theorem f_z89 : zT Tryz.prog 89 = some [.nilFunc] := by kernel_rfl
@[simp] theorem f_sz93 : szT Tryz.prog 93 = some 1 := by kernel_rfl
@[simp] theorem f_ag93 : aggT Tryz.prog 93 = some false := by kernel_rfl
@[simp] theorem f_ib93 : isBoolT Tryz.prog 93 = false := by kernel_rfl
@[simp] theorem f_is93 : isSlT Tryz.prog 93 = false := by kernel_rfl
@[simp] theorem f_by93 : byT Tryz.prog 93 = some 8 := by kernel_rfl
@[simp] theorem f_z93 : zT Tryz.prog 93 = some [.nilFunc] := by kernel_rfl
@[simp] theorem f_sz94 : szT Tryz.prog 94 = some 1 := by kernel_rfl
@[simp] theorem f_ag94 : aggT Tryz.prog 94 = some false := by kernel_rfl
@[simp] theorem f_ib94 : isBoolT Tryz.prog 94 = false := by kernel_rfl
@[simp] theorem f_is94 : isSlT Tryz.prog 94 = true := by kernel_rfl
@[simp] theorem f_by94 : byT Tryz.prog 94 = some 24 := by kernel_rfl
@[simp] theorem f_z94 : zT Tryz.prog 94 = some [.slice none 0 0] := by kernel_rfl
@[simp] theorem f_sl94 : slT Tryz.prog 94 = some 1 := by kernel_rfl
@[simp] theorem f_el94 : elT Tryz.prog 94 = some 57 := by kernel_rfl
@[simp] theorem f_sz95 : szT Tryz.prog 95 = some 1 := by kernel_rfl
@[simp] theorem f_ag95 : aggT Tryz.prog 95 = some false := by kernel_rfl
@[simp] theorem f_ib95 : isBoolT Tryz.prog 95 = false := by kernel_rfl
@[simp] theorem f_is95 : isSlT Tryz.prog 95 = true := by kernel_rfl
@[simp] theorem f_by95 : byT Tryz.prog 95 = some 24 := by kernel_rfl
@[simp] theorem f_z95 : zT Tryz.prog 95 = some [.slice none 0 0] := by kernel_rfl
@[simp] theorem f_sl95 : slT Tryz.prog 95 = some 1 := by kernel_rfl
@[simp] theorem f_el95 : elT Tryz.prog 95 = some 3 := by kernel_rfl
@[simp] theorem f_sz96 : szT Tryz.prog 96 = some 1 := by kernel_rfl
@[simp] theorem f_ag96 : aggT Tryz.prog 96 = some false := by kernel_rfl
@[simp] theorem f_ib96 : isBoolT Tryz.prog 96 = false := by kernel_rfl
@[simp] theorem f_is96 : isSlT Tryz.prog 96 = true := by kernel_rfl
@[simp] theorem f_by96 : byT Tryz.prog 96 = some 24 := by kernel_rfl
@[simp] theorem f_z96 : zT Tryz.prog 96 = some [.slice none 0 0] := by kernel_rfl
@[simp] theorem f_sl96 : slT Tryz.prog 96 = some 2 := by kernel_rfl
@[simp] theorem f_el96 : elT Tryz.prog 96 = some 120 := by kernel_rfl
@[simp] theorem f_sz97 : szT Tryz.prog 97 = some 1 := by kernel_rfl
@[simp] theorem f_ag97 : aggT Tryz.prog 97 = some false := by kernel_rfl
@[simp] theorem f_ib97 : isBoolT Tryz.prog 97 = false := by kernel_rfl
@[simp] theorem f_is97 : isSlT Tryz.prog 97 = true := by kernel_rfl
@[simp] theorem f_by97 : byT Tryz.prog 97 = some 24 := by kernel_rfl
@[simp] theorem f_z97 : zT Tryz.prog 97 = some [.slice none 0 0] := by kernel_rfl
@[simp] theorem f_sl97 : slT Tryz.prog 97 = some 3 := by kernel_rfl
@[simp] theorem f_el97 : elT Tryz.prog 97 = some 122 := by kernel_rfl
@[simp] theorem f_sz98 : szT Tryz.prog 98 = some 1 := by kernel_rfl
@[simp] theorem f_ag98 : aggT Tryz.prog 98 = some false := by kernel_rfl
@[simp] theorem f_ib98 : isBoolT Tryz.prog 98 = false := by kernel_rfl
@[simp] theorem f_is98 : isSlT Tryz.prog 98 = true := by kernel_rfl
@[simp] theorem f_by98 : byT Tryz.prog 98 = some 24 := by kernel_rfl
@[simp] theorem f_z98 : zT Tryz.prog 98 = some [.slice none 0 0] := by kernel_rfl
@[simp] theorem f_sl98 : slT Tryz.prog 98 = some 3 := by kernel_rfl
@[simp] theorem f_el98 : elT Tryz.prog 98 = some 124 := by kernel_rfl
@[simp] theorem f_sz99 : szT Tryz.prog 99 = some 6 := by kernel_rfl
@[simp] theorem f_ag99 : aggT Tryz.prog 99 = some true := by kernel_rfl
@[simp] theorem f_ib99 : isBoolT Tryz.prog 99 = false := by kernel_rfl
@[simp] theorem f_is99 : isSlT Tryz.prog 99 = false := by kernel_rfl
@[simp] theorem f_by99 : byT Tryz.prog 99 = some 128 := by kernel_rfl
@[simp] theorem f_z99 : zT Tryz.prog 99 = some [.int .i64 0, .slice none 0 0, .slice none 0 0, .slice none 0 0, .slice none 0 0, .slice none 0 0] := by kernel_rfl
@[simp] theorem f_ok99 : fldsOk Tryz.prog 99 = true := by kernel_rfl
@[simp] theorem f_fld99_0 : fldT Tryz.prog 99 0 = some (0, 1) := by kernel_rfl
@[simp] theorem f_fldA99_0 : fldA Tryz.prog 99 0 = some false := by kernel_rfl
@[simp] theorem f_pl99_0 : placeT Tryz.prog 99 0 = some (0, 1) := by kernel_rfl
@[simp] theorem f_fld99_1 : fldT Tryz.prog 99 1 = some (1, 1) := by kernel_rfl
@[simp] theorem f_fldA99_1 : fldA Tryz.prog 99 1 = some false := by kernel_rfl
@[simp] theorem f_pl99_1 : placeT Tryz.prog 99 1 = some (1, 1) := by kernel_rfl
@[simp] theorem f_fld99_2 : fldT Tryz.prog 99 2 = some (2, 1) := by kernel_rfl
@[simp] theorem f_fldA99_2 : fldA Tryz.prog 99 2 = some false := by kernel_rfl
@[simp] theorem f_pl99_2 : placeT Tryz.prog 99 2 = some (2, 1) := by kernel_rfl
@[simp] theorem f_fld99_3 : fldT Tryz.prog 99 3 = some (3, 1) := by kernel_rfl
@[simp] theorem f_fldA99_3 : fldA Tryz.prog 99 3 = some false := by kernel_rfl
@[simp] theorem f_pl99_3 : placeT Tryz.prog 99 3 = some (3, 1) := by kernel_rfl
@[simp] theorem f_fld99_4 : fldT Tryz.prog 99 4 = some (4, 1) := by kernel_rfl
@[simp] theorem f_fldA99_4 : fldA Tryz.prog 99 4 = some false := by kernel_rfl
@[simp] theorem f_pl99_4 : placeT Tryz.prog 99 4 = some (4, 1) := by kernel_rfl
@[simp] theorem f_fld99_5 : fldT Tryz.prog 99 5 = some (5, 1) := by kernel_rfl
@[simp] theorem f_fldA99_5 : fldA Tryz.prog 99 5 = some false := by kernel_rfl
@[simp] theorem f_pl99_5 : placeT Tryz.prog 99 5 = some (5, 1) := by kernel_rfl
@[simp] theorem f_sz100 : szT Tryz.prog 100 = some 6 := by kernel_rfl
@[simp] theorem f_ag100 : aggT Tryz.prog 100 = some true := by kernel_rfl
@[simp] theorem f_ib100 : isBoolT Tryz.prog 100 = false := by kernel_rfl
@[simp] theorem f_is100 : isSlT Tryz.prog 100 = false := by kernel_rfl
@[simp] theorem f_by100 : byT Tryz.prog 100 = some 128 := by kernel_rfl
@[simp] theorem f_z100 : zT Tryz.prog 100 = some [.int .i64 0, .slice none 0 0, .slice none 0 0, .slice none 0 0, .slice none 0 0, .slice none 0 0] := by kernel_rfl
@[simp] theorem f_ok100 : fldsOk Tryz.prog 100 = true := by kernel_rfl
@[simp] theorem f_fld100_0 : fldT Tryz.prog 100 0 = some (0, 1) := by kernel_rfl
@[simp] theorem f_fldA100_0 : fldA Tryz.prog 100 0 = some false := by kernel_rfl
@[simp] theorem f_pl100_0 : placeT Tryz.prog 100 0 = some (0, 1) := by kernel_rfl
@[simp] theorem f_fld100_1 : fldT Tryz.prog 100 1 = some (1, 1) := by kernel_rfl
@[simp] theorem f_fldA100_1 : fldA Tryz.prog 100 1 = some false := by kernel_rfl
@[simp] theorem f_pl100_1 : placeT Tryz.prog 100 1 = some (1, 1) := by kernel_rfl
@[simp] theorem f_fld100_2 : fldT Tryz.prog 100 2 = some (2, 1) := by kernel_rfl
@[simp] theorem f_fldA100_2 : fldA Tryz.prog 100 2 = some false := by kernel_rfl
@[simp] theorem f_pl100_2 : placeT Tryz.prog 100 2 = some (2, 1) := by kernel_rfl
@[simp] theorem f_fld100_3 : fldT Tryz.prog 100 3 = some (3, 1) := by kernel_rfl
@[simp] theorem f_fldA100_3 : fldA Tryz.prog 100 3 = some false := by kernel_rfl
@[simp] theorem f_pl100_3 : placeT Tryz.prog 100 3 = some (3, 1) := by kernel_rfl
@[simp] theorem f_fld100_4 : fldT Tryz.prog 100 4 = some (4, 1) := by kernel_rfl
@[simp] theorem f_fldA100_4 : fldA Tryz.prog 100 4 = some false := by kernel_rfl
@[simp] theorem f_pl100_4 : placeT Tryz.prog 100 4 = some (4, 1) := by kernel_rfl
@[simp] theorem f_fld100_5 : fldT Tryz.prog 100 5 = some (5, 1) := by kernel_rfl
@[simp] theorem f_fldA100_5 : fldA Tryz.prog 100 5 = some false := by kernel_rfl
@[simp] theorem f_pl100_5 : placeT Tryz.prog 100 5 = some (5, 1) := by kernel_rfl
@[simp] theorem f_sz101 : szT Tryz.prog 101 = some 1 := by kernel_rfl
@[simp] theorem f_ag101 : aggT Tryz.prog 101 = some false := by kernel_rfl
@[simp] theorem f_ib101 : isBoolT Tryz.prog 101 = false := by kernel_rfl
@[simp] theorem f_is101 : isSlT Tryz.prog 101 = false := by kernel_rfl
@[simp] theorem f_by101 : byT Tryz.prog 101 = some 8 := by kernel_rfl
@[simp] theorem f_z101 : zT Tryz.prog 101 = some [.nilFunc] := by kernel_rfl
@[simp] theorem f_sz102 : szT Tryz.prog 102 = some 1 := by kernel_rfl
@[simp] theorem f_ag102 : aggT Tryz.prog 102 = some false := by kernel_rfl
@[simp] theorem f_ib102 : isBoolT Tryz.prog 102 = false := by kernel_rfl
@[simp] theorem f_is102 : isSlT Tryz.prog 102 = false := by kernel_rfl
@[simp] theorem f_by102 : byT Tryz.prog 102 = some 8 := by kernel_rfl
@[simp] theorem f_z102 : zT Tryz.prog 102 = some [.nilFunc] := by kernel_rfl
@[simp] theorem f_sz103 : szT Tryz.prog 103 = some 1 := by kernel_rfl
@[simp] theorem f_ag103 : aggT Tryz.prog 103 = some false := by kernel_rfl
@[simp] theorem f_ib103 : isBoolT Tryz.prog 103 = false := by kernel_rfl
@[simp] theorem f_is103 : isSlT Tryz.prog 103 = true := by kernel_rfl
@[simp] theorem f_by103 : byT Tryz.prog 103 = some 24 := by kernel_rfl
@[simp] theorem f_z103 : zT Tryz.prog 103 = some [.slice none 0 0] := by kernel_rfl
@[simp] theorem f_sl103 : slT Tryz.prog 103 = some 1 := by kernel_rfl
@[simp] theorem f_el103 : elT Tryz.prog 103 = some 9 := by kernel_rfl
@[simp] theorem f_sz104 : szT Tryz.prog 104 = some 1 := by kernel_rfl
@[simp] theorem f_ag104 : aggT Tryz.prog 104 = some false := by kernel_rfl
@[simp] theorem f_ib104 : isBoolT Tryz.prog 104 = false := by kernel_rfl
@[simp] theorem f_is104 : isSlT Tryz.prog 104 = false := by kernel_rfl
@[simp] theorem f_by104 : byT Tryz.prog 104 = some 8 := by kernel_rfl
@[simp] theorem f_z104 : zT Tryz.prog 104 = some [.nilFunc] := by kernel_rfl
@[simp] theorem f_sz106 : szT Tryz.prog 106 = some 1 := by kernel_rfl
@[simp] theorem f_ag106 : aggT Tryz.prog 106 = some false := by kernel_rfl
@[simp] theorem f_ib106 : isBoolT Tryz.prog 106 = false := by kernel_rfl
@[simp] theorem f_is106 : isSlT Tryz.prog 106 = false := by kernel_rfl
@[simp] theorem f_by106 : byT Tryz.prog 106 = some 8 := by kernel_rfl
@[simp] theorem f_z106 : zT Tryz.prog 106 = some [.nilFunc] := by kernel_rfl
@[simp] theorem f_sz107 : szT Tryz.prog 107 = some 1 := by kernel_rfl
@[simp] theorem f_ag107 : aggT Tryz.prog 107 = some false := by kernel_rfl
@[simp] theorem f_ib107 : isBoolT Tryz.prog 107 = false := by kernel_rfl
@[simp] theorem f_is107 : isSlT Tryz.prog 107 = false := by kernel_rfl
@[simp] theorem f_by107 : byT Tryz.prog 107 = some 8 := by kernel_rfl
@[simp] theorem f_z107 : zT Tryz.prog 107 = some [.nilFunc] := by kernel_rfl
@[simp] theorem f_sz108 : szT Tryz.prog 108 = some 1 := by kernel_rfl
@[simp] theorem f_ag108 : aggT Tryz.prog 108 = some false := by kernel_rfl
@[simp] theorem f_ib108 : isBoolT Tryz.prog 108 = false := by kernel_rfl
@[simp] theorem f_is108 : isSlT Tryz.prog 108 = false := by kernel_rfl
@[simp] theorem f_by108 : byT Tryz.prog 108 = some 8 := by kernel_rfl
@[simp] theorem f_z108 : zT Tryz.prog 108 = some [.nilFunc] := by kernel_rfl
@[simp] theorem f_sz109 : szT Tryz.prog 109 = some 1 := by kernel_rfl
@[simp] theorem f_ag109 : aggT Tryz.prog 109 = some false := by kernel_rfl
@[simp] theorem f_ib109 : isBoolT Tryz.prog 109 = false := by kernel_rfl
@[simp] theorem f_is109 : isSlT Tryz.prog 109 = false := by kernel_rfl
@[simp] theorem f_by109 : byT Tryz.prog 109 = some 8 := by kernel_rfl
@[simp] theorem f_z109 : zT Tryz.prog 109 = some [.nilFunc] := by kernel_rfl
@[simp] theorem f_sz111 : szT Tryz.prog 111 = some 1 := by kernel_rfl
@[simp] theorem f_ag111 : aggT Tryz.prog 111 = some false := by kernel_rfl
@[simp] theorem f_ib111 : isBoolT Tryz.prog 111 = false := by kernel_rfl
@[simp] theorem f_is111 : isSlT Tryz.prog 111 = false := by kernel_rfl
@[simp] theorem f_by111 : byT Tryz.prog 111 = some 8 := by kernel_rfl
@[simp] theorem f_z111 : zT Tryz.prog 111 = some [.nilFunc] := by kernel_rfl
@[simp] theorem f_sz112 : szT Tryz.prog 112 = some 1 := by kernel_rfl
@[simp] theorem f_ag112 : aggT Tryz.prog 112 = some false := by kernel_rfl
@[simp] theorem f_ib112 : isBoolT Tryz.prog 112 = false := by kernel_rfl
@[simp] theorem f_is112 : isSlT Tryz.prog 112 = false := by kernel_rfl
@[simp] theorem f_by112 : byT Tryz.prog 112 = some 8 := by kernel_rfl
@[simp] theorem f_z112 : zT Tryz.prog 112 = some [.nilFunc] := by kernel_rfl
@[simp] theorem f_sz114 : szT Tryz.prog 114 = some 1 := by kernel_rfl
@[simp] theorem f_ag114 : aggT Tryz.prog 114 = some false := by kernel_rfl
@[simp] theorem f_ib114 : isBoolT Tryz.prog 114 = false := by kernel_rfl
@[simp] theorem f_is114 : isSlT Tryz.prog 114 = false := by kernel_rfl
@[simp] theorem f_by114 : byT Tryz.prog 114 = some 8 := by kernel_rfl
@[simp] theorem f_z114 : zT Tryz.prog 114 = some [.nilFunc] := by kernel_rfl
@[simp] theorem f_sz115 : szT Tryz.prog 115 = some 1 := by kernel_rfl
@[simp] theorem f_ag115 : aggT Tryz.prog 115 = some false := by kernel_rfl
@[simp] theorem f_ib115 : isBoolT Tryz.prog 115 = false := by kernel_rfl
@[simp] theorem f_is115 : isSlT Tryz.prog 115 = false := by kernel_rfl
@[simp] theorem f_by115 : byT Tryz.prog 115 = some 8 := by kernel_rfl
@[simp] theorem f_z115 : zT Tryz.prog 115 = some [.nilFunc] := by kernel_rfl
@[simp] theorem f_sz116 : szT Tryz.prog 116 = some 1 := by kernel_rfl
@[simp] theorem f_ag116 : aggT Tryz.prog 116 = some false := by kernel_rfl
@[simp] theorem f_ib116 : isBoolT Tryz.prog 116 = false := by kernel_rfl
@[simp] theorem f_is116 : isSlT Tryz.prog 116 = false := by kernel_rfl
@[simp] theorem f_by116 : byT Tryz.prog 116 = some 8 := by kernel_rfl
@[simp] theorem f_z116 : zT Tryz.prog 116 = some [.nilFunc] := by kernel_rfl
@[simp] theorem f_sz117 : szT Tryz.prog 117 = some 1 := by kernel_rfl
@[simp] theorem f_ag117 : aggT Tryz.prog 117 = some false := by kernel_rfl
@[simp] theorem f_ib117 : isBoolT Tryz.prog 117 = false := by kernel_rfl
@[simp] theorem f_is117 : isSlT Tryz.prog 117 = false := by kernel_rfl
@[simp] theorem f_by117 : byT Tryz.prog 117 = some 8 := by kernel_rfl
@[simp] theorem f_z117 : zT Tryz.prog 117 = some [.nilFunc] := by kernel_rfl
@[simp] theorem f_sz118 : szT Tryz.prog 118 = some 1 := by kernel_rfl
@[simp] theorem f_ag118 : aggT Tryz.prog 118 = some false := by kernel_rfl
@[simp] theorem f_ib118 : isBoolT Tryz.prog 118 = false := by kernel_rfl
@[simp] theorem f_is118 : isSlT Tryz.prog 118 = false := by kernel_rfl
@[simp] theorem f_by118 : byT Tryz.prog 118 = some 8 := by kernel_rfl
@[simp] theorem f_z118 : zT Tryz.prog 118 = some [.nilFunc] := by kernel_rfl
@[simp] theorem f_sz119 : szT Tryz.prog 119 = some 2 := by kernel_rfl
@[simp] theorem f_ag119 : aggT Tryz.prog 119 = some true := by kernel_rfl
@[simp] theorem f_ib119 : isBoolT Tryz.prog 119 = false := by kernel_rfl
@[simp] theorem f_is119 : isSlT Tryz.prog 119 = false := by kernel_rfl
@[simp] theorem f_by119 : byT Tryz.prog 119 = some 16 := by kernel_rfl
@[simp] theorem f_z119 : zT Tryz.prog 119 = some [.int .i64 0, .int .i64 0] := by kernel_rfl
@[simp] theorem f_ok119 : fldsOk Tryz.prog 119 = true := by kernel_rfl
@[simp] theorem f_fld119_0 : fldT Tryz.prog 119 0 = some (0, 1) := by kernel_rfl
@[simp] theorem f_fldA119_0 : fldA Tryz.prog 119 0 = some false := by kernel_rfl
@[simp] theorem f_pl119_0 : placeT Tryz.prog 119 0 = some (0, 1) := by kernel_rfl
@[simp] theorem f_fld119_1 : fldT Tryz.prog 119 1 = some (1, 1) := by kernel_rfl
@[simp] theorem f_fldA119_1 : fldA Tryz.prog 119 1 = some false := by kernel_rfl
@[simp] theorem f_pl119_1 : placeT Tryz.prog 119 1 = some (1, 1) := by kernel_rfl
@[simp] theorem f_sz120 : szT Tryz.prog 120 = some 2 := by kernel_rfl
@[simp] theorem f_ag120 : aggT Tryz.prog 120 = some true := by kernel_rfl
@[simp] theorem f_ib120 : isBoolT Tryz.prog 120 = false := by kernel_rfl
@[simp] theorem f_is120 : isSlT Tryz.prog 120 = false := by kernel_rfl
@[simp] theorem f_by120 : byT Tryz.prog 120 = some 16 := by kernel_rfl
@[simp] theorem f_z120 : zT Tryz.prog 120 = some [.int .i64 0, .int .i64 0] := by kernel_rfl
@[simp] theorem f_ok120 : fldsOk Tryz.prog 120 = true := by kernel_rfl
@[simp] theorem f_fld120_0 : fldT Tryz.prog 120 0 = some (0, 1) := by kernel_rfl
@[simp] theorem f_fldA120_0 : fldA Tryz.prog 120 0 = some false := by kernel_rfl
@[simp] theorem f_pl120_0 : placeT Tryz.prog 120 0 = some (0, 1) := by kernel_rfl
@[simp] theorem f_fld120_1 : fldT Tryz.prog 120 1 = some (1, 1) := by kernel_rfl
@[simp] theorem f_fldA120_1 : fldA Tryz.prog 120 1 = some false := by kernel_rfl
@[simp] theorem f_pl120_1 : placeT Tryz.prog 120 1 = some (1, 1) := by kernel_rfl
@[simp] theorem f_sz121 : szT Tryz.prog 121 = some 3 := by kernel_rfl
@[simp] theorem f_ag121 : aggT Tryz.prog 121 = some true := by kernel_rfl
@[simp] theorem f_ib121 : isBoolT Tryz.prog 121 = false := by kernel_rfl
@[simp] theorem f_is121 : isSlT Tryz.prog 121 = false := by kernel_rfl
@[simp] theorem f_by121 : byT Tryz.prog 121 = some 32 := by kernel_rfl
@[simp] theorem f_z121 : zT Tryz.prog 121 = some [.string ByteArray.empty, .int .i64 0, .int .i64 0] := by kernel_rfl
@[simp] theorem f_ok121 : fldsOk Tryz.prog 121 = true := by kernel_rfl
@[simp] theorem f_fld121_0 : fldT Tryz.prog 121 0 = some (0, 1) := by kernel_rfl
@[simp] theorem f_fldA121_0 : fldA Tryz.prog 121 0 = some false := by kernel_rfl
@[simp] theorem f_pl121_0 : placeT Tryz.prog 121 0 = some (0, 1) := by kernel_rfl
@[simp] theorem f_fld121_1 : fldT Tryz.prog 121 1 = some (1, 1) := by kernel_rfl
@[simp] theorem f_fldA121_1 : fldA Tryz.prog 121 1 = some false := by kernel_rfl
@[simp] theorem f_pl121_1 : placeT Tryz.prog 121 1 = some (1, 1) := by kernel_rfl
@[simp] theorem f_fld121_2 : fldT Tryz.prog 121 2 = some (2, 1) := by kernel_rfl
@[simp] theorem f_fldA121_2 : fldA Tryz.prog 121 2 = some false := by kernel_rfl
@[simp] theorem f_pl121_2 : placeT Tryz.prog 121 2 = some (2, 1) := by kernel_rfl
@[simp] theorem f_sz122 : szT Tryz.prog 122 = some 3 := by kernel_rfl
@[simp] theorem f_ag122 : aggT Tryz.prog 122 = some true := by kernel_rfl
@[simp] theorem f_ib122 : isBoolT Tryz.prog 122 = false := by kernel_rfl
@[simp] theorem f_is122 : isSlT Tryz.prog 122 = false := by kernel_rfl
@[simp] theorem f_by122 : byT Tryz.prog 122 = some 32 := by kernel_rfl
@[simp] theorem f_z122 : zT Tryz.prog 122 = some [.string ByteArray.empty, .int .i64 0, .int .i64 0] := by kernel_rfl
@[simp] theorem f_ok122 : fldsOk Tryz.prog 122 = true := by kernel_rfl
@[simp] theorem f_fld122_0 : fldT Tryz.prog 122 0 = some (0, 1) := by kernel_rfl
@[simp] theorem f_fldA122_0 : fldA Tryz.prog 122 0 = some false := by kernel_rfl
@[simp] theorem f_pl122_0 : placeT Tryz.prog 122 0 = some (0, 1) := by kernel_rfl
@[simp] theorem f_fld122_1 : fldT Tryz.prog 122 1 = some (1, 1) := by kernel_rfl
@[simp] theorem f_fldA122_1 : fldA Tryz.prog 122 1 = some false := by kernel_rfl
@[simp] theorem f_pl122_1 : placeT Tryz.prog 122 1 = some (1, 1) := by kernel_rfl
@[simp] theorem f_fld122_2 : fldT Tryz.prog 122 2 = some (2, 1) := by kernel_rfl
@[simp] theorem f_fldA122_2 : fldA Tryz.prog 122 2 = some false := by kernel_rfl
@[simp] theorem f_pl122_2 : placeT Tryz.prog 122 2 = some (2, 1) := by kernel_rfl
@[simp] theorem f_sz123 : szT Tryz.prog 123 = some 3 := by kernel_rfl
@[simp] theorem f_ag123 : aggT Tryz.prog 123 = some true := by kernel_rfl
@[simp] theorem f_ib123 : isBoolT Tryz.prog 123 = false := by kernel_rfl
@[simp] theorem f_is123 : isSlT Tryz.prog 123 = false := by kernel_rfl
@[simp] theorem f_by123 : byT Tryz.prog 123 = some 24 := by kernel_rfl
@[simp] theorem f_z123 : zT Tryz.prog 123 = some [.int .i64 0, .int .i64 0, .int .i64 0] := by kernel_rfl
@[simp] theorem f_ok123 : fldsOk Tryz.prog 123 = true := by kernel_rfl
@[simp] theorem f_fld123_0 : fldT Tryz.prog 123 0 = some (0, 1) := by kernel_rfl
@[simp] theorem f_fldA123_0 : fldA Tryz.prog 123 0 = some false := by kernel_rfl
@[simp] theorem f_pl123_0 : placeT Tryz.prog 123 0 = some (0, 1) := by kernel_rfl
@[simp] theorem f_fld123_1 : fldT Tryz.prog 123 1 = some (1, 1) := by kernel_rfl
@[simp] theorem f_fldA123_1 : fldA Tryz.prog 123 1 = some false := by kernel_rfl
@[simp] theorem f_pl123_1 : placeT Tryz.prog 123 1 = some (1, 1) := by kernel_rfl
@[simp] theorem f_fld123_2 : fldT Tryz.prog 123 2 = some (2, 1) := by kernel_rfl
@[simp] theorem f_fldA123_2 : fldA Tryz.prog 123 2 = some false := by kernel_rfl
@[simp] theorem f_pl123_2 : placeT Tryz.prog 123 2 = some (2, 1) := by kernel_rfl
@[simp] theorem f_sz124 : szT Tryz.prog 124 = some 3 := by kernel_rfl
@[simp] theorem f_ag124 : aggT Tryz.prog 124 = some true := by kernel_rfl
@[simp] theorem f_ib124 : isBoolT Tryz.prog 124 = false := by kernel_rfl
@[simp] theorem f_is124 : isSlT Tryz.prog 124 = false := by kernel_rfl
@[simp] theorem f_by124 : byT Tryz.prog 124 = some 24 := by kernel_rfl
@[simp] theorem f_z124 : zT Tryz.prog 124 = some [.int .i64 0, .int .i64 0, .int .i64 0] := by kernel_rfl
@[simp] theorem f_ok124 : fldsOk Tryz.prog 124 = true := by kernel_rfl
@[simp] theorem f_fld124_0 : fldT Tryz.prog 124 0 = some (0, 1) := by kernel_rfl
@[simp] theorem f_fldA124_0 : fldA Tryz.prog 124 0 = some false := by kernel_rfl
@[simp] theorem f_pl124_0 : placeT Tryz.prog 124 0 = some (0, 1) := by kernel_rfl
@[simp] theorem f_fld124_1 : fldT Tryz.prog 124 1 = some (1, 1) := by kernel_rfl
@[simp] theorem f_fldA124_1 : fldA Tryz.prog 124 1 = some false := by kernel_rfl
@[simp] theorem f_pl124_1 : placeT Tryz.prog 124 1 = some (1, 1) := by kernel_rfl
@[simp] theorem f_fld124_2 : fldT Tryz.prog 124 2 = some (2, 1) := by kernel_rfl
@[simp] theorem f_fldA124_2 : fldA Tryz.prog 124 2 = some false := by kernel_rfl
@[simp] theorem f_pl124_2 : placeT Tryz.prog 124 2 = some (2, 1) := by kernel_rfl
@[simp] theorem f_sz125 : szT Tryz.prog 125 = some 1 := by kernel_rfl
@[simp] theorem f_ag125 : aggT Tryz.prog 125 = some false := by kernel_rfl
@[simp] theorem f_ib125 : isBoolT Tryz.prog 125 = false := by kernel_rfl
@[simp] theorem f_is125 : isSlT Tryz.prog 125 = false := by kernel_rfl
@[simp] theorem f_by125 : byT Tryz.prog 125 = some 8 := by kernel_rfl
@[simp] theorem f_z125 : zT Tryz.prog 125 = some [.nilFunc] := by kernel_rfl
@[simp] theorem f_sz126 : szT Tryz.prog 126 = some 1 := by kernel_rfl
@[simp] theorem f_ag126 : aggT Tryz.prog 126 = some false := by kernel_rfl
@[simp] theorem f_ib126 : isBoolT Tryz.prog 126 = false := by kernel_rfl
@[simp] theorem f_is126 : isSlT Tryz.prog 126 = false := by kernel_rfl
@[simp] theorem f_by126 : byT Tryz.prog 126 = some 8 := by kernel_rfl
@[simp] theorem f_z126 : zT Tryz.prog 126 = some [.nilFunc] := by kernel_rfl
@[simp] theorem f_sz127 : szT Tryz.prog 127 = some 1 := by kernel_rfl
@[simp] theorem f_ag127 : aggT Tryz.prog 127 = some false := by kernel_rfl
@[simp] theorem f_ib127 : isBoolT Tryz.prog 127 = false := by kernel_rfl
@[simp] theorem f_is127 : isSlT Tryz.prog 127 = false := by kernel_rfl
@[simp] theorem f_by127 : byT Tryz.prog 127 = some 8 := by kernel_rfl
@[simp] theorem f_z127 : zT Tryz.prog 127 = some [.nilFunc] := by kernel_rfl
@[simp] theorem f_sz128 : szT Tryz.prog 128 = some 1 := by kernel_rfl
@[simp] theorem f_ag128 : aggT Tryz.prog 128 = some false := by kernel_rfl
@[simp] theorem f_ib128 : isBoolT Tryz.prog 128 = false := by kernel_rfl
@[simp] theorem f_is128 : isSlT Tryz.prog 128 = false := by kernel_rfl
@[simp] theorem f_by128 : byT Tryz.prog 128 = some 8 := by kernel_rfl
@[simp] theorem f_z128 : zT Tryz.prog 128 = some [.nilFunc] := by kernel_rfl
@[simp] theorem f_sz129 : szT Tryz.prog 129 = some 1 := by kernel_rfl
@[simp] theorem f_ag129 : aggT Tryz.prog 129 = some false := by kernel_rfl
@[simp] theorem f_ib129 : isBoolT Tryz.prog 129 = false := by kernel_rfl
@[simp] theorem f_is129 : isSlT Tryz.prog 129 = false := by kernel_rfl
@[simp] theorem f_by129 : byT Tryz.prog 129 = some 8 := by kernel_rfl
@[simp] theorem f_z129 : zT Tryz.prog 129 = some [.nilFunc] := by kernel_rfl
@[simp] theorem f_sz130 : szT Tryz.prog 130 = some 1 := by kernel_rfl
@[simp] theorem f_ag130 : aggT Tryz.prog 130 = some false := by kernel_rfl
@[simp] theorem f_ib130 : isBoolT Tryz.prog 130 = false := by kernel_rfl
@[simp] theorem f_is130 : isSlT Tryz.prog 130 = false := by kernel_rfl
@[simp] theorem f_by130 : byT Tryz.prog 130 = some 8 := by kernel_rfl
@[simp] theorem f_z130 : zT Tryz.prog 130 = some [.nilFunc] := by kernel_rfl
@[simp] theorem f_sz131 : szT Tryz.prog 131 = some 1 := by kernel_rfl
@[simp] theorem f_ag131 : aggT Tryz.prog 131 = some false := by kernel_rfl
@[simp] theorem f_ib131 : isBoolT Tryz.prog 131 = false := by kernel_rfl
@[simp] theorem f_is131 : isSlT Tryz.prog 131 = true := by kernel_rfl
@[simp] theorem f_by131 : byT Tryz.prog 131 = some 24 := by kernel_rfl
@[simp] theorem f_z131 : zT Tryz.prog 131 = some [.slice none 0 0] := by kernel_rfl
@[simp] theorem f_sl131 : slT Tryz.prog 131 = some 1 := by kernel_rfl
@[simp] theorem f_el131 : elT Tryz.prog 131 = some 132 := by kernel_rfl
@[simp] theorem f_sz132 : szT Tryz.prog 132 = some 1 := by kernel_rfl
@[simp] theorem f_ag132 : aggT Tryz.prog 132 = some false := by kernel_rfl
@[simp] theorem f_ib132 : isBoolT Tryz.prog 132 = false := by kernel_rfl
@[simp] theorem f_is132 : isSlT Tryz.prog 132 = false := by kernel_rfl
@[simp] theorem f_by132 : byT Tryz.prog 132 = some 8 := by kernel_rfl
@[simp] theorem f_z132 : zT Tryz.prog 132 = some [.nilFunc] := by kernel_rfl
@[simp] theorem f_sz134 : szT Tryz.prog 134 = some 1 := by kernel_rfl
@[simp] theorem f_ag134 : aggT Tryz.prog 134 = some false := by kernel_rfl
@[simp] theorem f_ib134 : isBoolT Tryz.prog 134 = false := by kernel_rfl
@[simp] theorem f_is134 : isSlT Tryz.prog 134 = false := by kernel_rfl
@[simp] theorem f_by134 : byT Tryz.prog 134 = some 8 := by kernel_rfl
@[simp] theorem f_z134 : zT Tryz.prog 134 = some [.nilFunc] := by kernel_rfl
@[simp] theorem f_sz135 : szT Tryz.prog 135 = some 1 := by kernel_rfl
@[simp] theorem f_ag135 : aggT Tryz.prog 135 = some false := by kernel_rfl
@[simp] theorem f_ib135 : isBoolT Tryz.prog 135 = false := by kernel_rfl
@[simp] theorem f_is135 : isSlT Tryz.prog 135 = false := by kernel_rfl
@[simp] theorem f_by135 : byT Tryz.prog 135 = some 8 := by kernel_rfl
@[simp] theorem f_z135 : zT Tryz.prog 135 = some [.nilFunc] := by kernel_rfl
@[simp] theorem f_sz136 : szT Tryz.prog 136 = some 1 := by kernel_rfl
@[simp] theorem f_ag136 : aggT Tryz.prog 136 = some false := by kernel_rfl
@[simp] theorem f_ib136 : isBoolT Tryz.prog 136 = false := by kernel_rfl
@[simp] theorem f_is136 : isSlT Tryz.prog 136 = false := by kernel_rfl
@[simp] theorem f_by136 : byT Tryz.prog 136 = some 8 := by kernel_rfl
@[simp] theorem f_z136 : zT Tryz.prog 136 = some [.nilFunc] := by kernel_rfl
@[simp] theorem f_sz137 : szT Tryz.prog 137 = some 1 := by kernel_rfl
@[simp] theorem f_ag137 : aggT Tryz.prog 137 = some false := by kernel_rfl
@[simp] theorem f_ib137 : isBoolT Tryz.prog 137 = false := by kernel_rfl
@[simp] theorem f_is137 : isSlT Tryz.prog 137 = false := by kernel_rfl
@[simp] theorem f_by137 : byT Tryz.prog 137 = some 8 := by kernel_rfl
@[simp] theorem f_z137 : zT Tryz.prog 137 = some [.nilFunc] := by kernel_rfl
@[simp] theorem f_sz138 : szT Tryz.prog 138 = some 1 := by kernel_rfl
@[simp] theorem f_ag138 : aggT Tryz.prog 138 = some false := by kernel_rfl
@[simp] theorem f_ib138 : isBoolT Tryz.prog 138 = false := by kernel_rfl
@[simp] theorem f_is138 : isSlT Tryz.prog 138 = false := by kernel_rfl
@[simp] theorem f_by138 : byT Tryz.prog 138 = some 8 := by kernel_rfl
@[simp] theorem f_z138 : zT Tryz.prog 138 = some [.nilFunc] := by kernel_rfl
@[simp] theorem f_sz139 : szT Tryz.prog 139 = some 1 := by kernel_rfl
@[simp] theorem f_ag139 : aggT Tryz.prog 139 = some false := by kernel_rfl
@[simp] theorem f_ib139 : isBoolT Tryz.prog 139 = false := by kernel_rfl
@[simp] theorem f_is139 : isSlT Tryz.prog 139 = false := by kernel_rfl
@[simp] theorem f_by139 : byT Tryz.prog 139 = some 8 := by kernel_rfl
@[simp] theorem f_z139 : zT Tryz.prog 139 = some [.nilFunc] := by kernel_rfl
@[simp] theorem f_sz140 : szT Tryz.prog 140 = some 1 := by kernel_rfl
@[simp] theorem f_ag140 : aggT Tryz.prog 140 = some false := by kernel_rfl
@[simp] theorem f_ib140 : isBoolT Tryz.prog 140 = false := by kernel_rfl
@[simp] theorem f_is140 : isSlT Tryz.prog 140 = false := by kernel_rfl
@[simp] theorem f_by140 : byT Tryz.prog 140 = some 8 := by kernel_rfl
@[simp] theorem f_z140 : zT Tryz.prog 140 = some [.nilFunc] := by kernel_rfl
@[simp] theorem f_sz141 : szT Tryz.prog 141 = some 1 := by kernel_rfl
@[simp] theorem f_ag141 : aggT Tryz.prog 141 = some false := by kernel_rfl
@[simp] theorem f_ib141 : isBoolT Tryz.prog 141 = false := by kernel_rfl
@[simp] theorem f_is141 : isSlT Tryz.prog 141 = false := by kernel_rfl
@[simp] theorem f_by141 : byT Tryz.prog 141 = some 8 := by kernel_rfl
@[simp] theorem f_z141 : zT Tryz.prog 141 = some [.nilFunc] := by kernel_rfl
@[simp] theorem f_sz142 : szT Tryz.prog 142 = some 1 := by kernel_rfl
@[simp] theorem f_ag142 : aggT Tryz.prog 142 = some false := by kernel_rfl
@[simp] theorem f_ib142 : isBoolT Tryz.prog 142 = false := by kernel_rfl
@[simp] theorem f_is142 : isSlT Tryz.prog 142 = false := by kernel_rfl
@[simp] theorem f_by142 : byT Tryz.prog 142 = some 8 := by kernel_rfl
@[simp] theorem f_z142 : zT Tryz.prog 142 = some [.nilFunc] := by kernel_rfl
@[simp] theorem f_sz143 : szT Tryz.prog 143 = some 1 := by kernel_rfl
@[simp] theorem f_ag143 : aggT Tryz.prog 143 = some false := by kernel_rfl
@[simp] theorem f_ib143 : isBoolT Tryz.prog 143 = false := by kernel_rfl
@[simp] theorem f_is143 : isSlT Tryz.prog 143 = false := by kernel_rfl
@[simp] theorem f_by143 : byT Tryz.prog 143 = some 8 := by kernel_rfl
@[simp] theorem f_z143 : zT Tryz.prog 143 = some [.nilFunc] := by kernel_rfl
@[simp] theorem f_sz144 : szT Tryz.prog 144 = some 1 := by kernel_rfl
@[simp] theorem f_ag144 : aggT Tryz.prog 144 = some false := by kernel_rfl
@[simp] theorem f_ib144 : isBoolT Tryz.prog 144 = false := by kernel_rfl
@[simp] theorem f_is144 : isSlT Tryz.prog 144 = false := by kernel_rfl
@[simp] theorem f_by144 : byT Tryz.prog 144 = some 8 := by kernel_rfl
@[simp] theorem f_z144 : zT Tryz.prog 144 = some [.nilFunc] := by kernel_rfl
@[simp] theorem f_sz145 : szT Tryz.prog 145 = some 2 := by kernel_rfl
@[simp] theorem f_ag145 : aggT Tryz.prog 145 = some true := by kernel_rfl
@[simp] theorem f_ib145 : isBoolT Tryz.prog 145 = false := by kernel_rfl
@[simp] theorem f_is145 : isSlT Tryz.prog 145 = false := by kernel_rfl
@[simp] theorem f_by145 : byT Tryz.prog 145 = some 48 := by kernel_rfl
@[simp] theorem f_z145 : zT Tryz.prog 145 = some [.slice none 0 0, .slice none 0 0] := by kernel_rfl
@[simp] theorem f_ok145 : fldsOk Tryz.prog 145 = true := by kernel_rfl
@[simp] theorem f_fld145_0 : fldT Tryz.prog 145 0 = some (0, 1) := by kernel_rfl
@[simp] theorem f_fldA145_0 : fldA Tryz.prog 145 0 = some false := by kernel_rfl
@[simp] theorem f_pl145_0 : placeT Tryz.prog 145 0 = some (0, 1) := by kernel_rfl
@[simp] theorem f_fld145_1 : fldT Tryz.prog 145 1 = some (1, 1) := by kernel_rfl
@[simp] theorem f_fldA145_1 : fldA Tryz.prog 145 1 = some false := by kernel_rfl
@[simp] theorem f_pl145_1 : placeT Tryz.prog 145 1 = some (1, 1) := by kernel_rfl
@[simp] theorem f_sz146 : szT Tryz.prog 146 = some 2 := by kernel_rfl
@[simp] theorem f_ag146 : aggT Tryz.prog 146 = some true := by kernel_rfl
@[simp] theorem f_ib146 : isBoolT Tryz.prog 146 = false := by kernel_rfl
@[simp] theorem f_is146 : isSlT Tryz.prog 146 = false := by kernel_rfl
@[simp] theorem f_by146 : byT Tryz.prog 146 = some 48 := by kernel_rfl
@[simp] theorem f_z146 : zT Tryz.prog 146 = some [.slice none 0 0, .slice none 0 0] := by kernel_rfl
@[simp] theorem f_ok146 : fldsOk Tryz.prog 146 = true := by kernel_rfl
@[simp] theorem f_fld146_0 : fldT Tryz.prog 146 0 = some (0, 1) := by kernel_rfl
@[simp] theorem f_fldA146_0 : fldA Tryz.prog 146 0 = some false := by kernel_rfl
@[simp] theorem f_pl146_0 : placeT Tryz.prog 146 0 = some (0, 1) := by kernel_rfl
@[simp] theorem f_fld146_1 : fldT Tryz.prog 146 1 = some (1, 1) := by kernel_rfl
@[simp] theorem f_fldA146_1 : fldA Tryz.prog 146 1 = some false := by kernel_rfl
@[simp] theorem f_pl146_1 : placeT Tryz.prog 146 1 = some (1, 1) := by kernel_rfl
@[simp] theorem f_sz148 : szT Tryz.prog 148 = some 1 := by kernel_rfl
@[simp] theorem f_ag148 : aggT Tryz.prog 148 = some false := by kernel_rfl
@[simp] theorem f_ib148 : isBoolT Tryz.prog 148 = false := by kernel_rfl
@[simp] theorem f_is148 : isSlT Tryz.prog 148 = false := by kernel_rfl
@[simp] theorem f_by148 : byT Tryz.prog 148 = some 8 := by kernel_rfl
@[simp] theorem f_z148 : zT Tryz.prog 148 = some [.nilFunc] := by kernel_rfl
@[simp] theorem f_sz149 : szT Tryz.prog 149 = some 1 := by kernel_rfl
@[simp] theorem f_ag149 : aggT Tryz.prog 149 = some false := by kernel_rfl
@[simp] theorem f_ib149 : isBoolT Tryz.prog 149 = false := by kernel_rfl
@[simp] theorem f_is149 : isSlT Tryz.prog 149 = false := by kernel_rfl
@[simp] theorem f_by149 : byT Tryz.prog 149 = some 8 := by kernel_rfl
@[simp] theorem f_z149 : zT Tryz.prog 149 = some [.nilFunc] := by kernel_rfl
@[simp] theorem f_sz150 : szT Tryz.prog 150 = some 1 := by kernel_rfl
@[simp] theorem f_ag150 : aggT Tryz.prog 150 = some false := by kernel_rfl
@[simp] theorem f_ib150 : isBoolT Tryz.prog 150 = false := by kernel_rfl
@[simp] theorem f_is150 : isSlT Tryz.prog 150 = false := by kernel_rfl
@[simp] theorem f_by150 : byT Tryz.prog 150 = some 8 := by kernel_rfl
@[simp] theorem f_z150 : zT Tryz.prog 150 = some [.nilFunc] := by kernel_rfl
@[simp] theorem f_sz151 : szT Tryz.prog 151 = some 2 := by kernel_rfl
@[simp] theorem f_ag151 : aggT Tryz.prog 151 = some true := by kernel_rfl
@[simp] theorem f_ib151 : isBoolT Tryz.prog 151 = false := by kernel_rfl
@[simp] theorem f_is151 : isSlT Tryz.prog 151 = false := by kernel_rfl
@[simp] theorem f_by151 : byT Tryz.prog 151 = some 32 := by kernel_rfl
@[simp] theorem f_z151 : zT Tryz.prog 151 = some [.int .i64 0, .slice none 0 0] := by kernel_rfl
@[simp] theorem f_ok151 : fldsOk Tryz.prog 151 = true := by kernel_rfl
@[simp] theorem f_fld151_0 : fldT Tryz.prog 151 0 = some (0, 1) := by kernel_rfl
@[simp] theorem f_fldA151_0 : fldA Tryz.prog 151 0 = some false := by kernel_rfl
@[simp] theorem f_pl151_0 : placeT Tryz.prog 151 0 = some (0, 1) := by kernel_rfl
@[simp] theorem f_fld151_1 : fldT Tryz.prog 151 1 = some (1, 1) := by kernel_rfl
@[simp] theorem f_fldA151_1 : fldA Tryz.prog 151 1 = some false := by kernel_rfl
@[simp] theorem f_pl151_1 : placeT Tryz.prog 151 1 = some (1, 1) := by kernel_rfl
@[simp] theorem f_sz152 : szT Tryz.prog 152 = some 2 := by kernel_rfl
@[simp] theorem f_ag152 : aggT Tryz.prog 152 = some true := by kernel_rfl
@[simp] theorem f_ib152 : isBoolT Tryz.prog 152 = false := by kernel_rfl
@[simp] theorem f_is152 : isSlT Tryz.prog 152 = false := by kernel_rfl
@[simp] theorem f_by152 : byT Tryz.prog 152 = some 32 := by kernel_rfl
@[simp] theorem f_z152 : zT Tryz.prog 152 = some [.int .i64 0, .slice none 0 0] := by kernel_rfl
@[simp] theorem f_ok152 : fldsOk Tryz.prog 152 = true := by kernel_rfl
@[simp] theorem f_fld152_0 : fldT Tryz.prog 152 0 = some (0, 1) := by kernel_rfl
@[simp] theorem f_fldA152_0 : fldA Tryz.prog 152 0 = some false := by kernel_rfl
@[simp] theorem f_pl152_0 : placeT Tryz.prog 152 0 = some (0, 1) := by kernel_rfl
@[simp] theorem f_fld152_1 : fldT Tryz.prog 152 1 = some (1, 1) := by kernel_rfl
@[simp] theorem f_fldA152_1 : fldA Tryz.prog 152 1 = some false := by kernel_rfl
@[simp] theorem f_pl152_1 : placeT Tryz.prog 152 1 = some (1, 1) := by kernel_rfl
@[simp] theorem f_sz153 : szT Tryz.prog 153 = some 1 := by kernel_rfl
@[simp] theorem f_ag153 : aggT Tryz.prog 153 = some false := by kernel_rfl
@[simp] theorem f_ib153 : isBoolT Tryz.prog 153 = false := by kernel_rfl
@[simp] theorem f_is153 : isSlT Tryz.prog 153 = false := by kernel_rfl
@[simp] theorem f_by153 : byT Tryz.prog 153 = some 8 := by kernel_rfl
@[simp] theorem f_z153 : zT Tryz.prog 153 = some [.nilFunc] := by kernel_rfl
@[simp] theorem f_sz155 : szT Tryz.prog 155 = some 1 := by kernel_rfl
@[simp] theorem f_ag155 : aggT Tryz.prog 155 = some false := by kernel_rfl
@[simp] theorem f_ib155 : isBoolT Tryz.prog 155 = false := by kernel_rfl
@[simp] theorem f_is155 : isSlT Tryz.prog 155 = false := by kernel_rfl
@[simp] theorem f_by155 : byT Tryz.prog 155 = some 8 := by kernel_rfl
@[simp] theorem f_z155 : zT Tryz.prog 155 = some [.nilFunc] := by kernel_rfl
@[simp] theorem f_sz156 : szT Tryz.prog 156 = some 1 := by kernel_rfl
@[simp] theorem f_ag156 : aggT Tryz.prog 156 = some false := by kernel_rfl
@[simp] theorem f_ib156 : isBoolT Tryz.prog 156 = false := by kernel_rfl
@[simp] theorem f_is156 : isSlT Tryz.prog 156 = true := by kernel_rfl
@[simp] theorem f_by156 : byT Tryz.prog 156 = some 24 := by kernel_rfl
@[simp] theorem f_z156 : zT Tryz.prog 156 = some [.slice none 0 0] := by kernel_rfl
@[simp] theorem f_sl156 : slT Tryz.prog 156 = some 2 := by kernel_rfl
@[simp] theorem f_el156 : elT Tryz.prog 156 = some 68 := by kernel_rfl
@[simp] theorem f_sz158 : szT Tryz.prog 158 = some 1 := by kernel_rfl
@[simp] theorem f_ag158 : aggT Tryz.prog 158 = some false := by kernel_rfl
@[simp] theorem f_ib158 : isBoolT Tryz.prog 158 = false := by kernel_rfl
@[simp] theorem f_is158 : isSlT Tryz.prog 158 = false := by kernel_rfl
@[simp] theorem f_by158 : byT Tryz.prog 158 = some 8 := by kernel_rfl
@[simp] theorem f_z158 : zT Tryz.prog 158 = some [.nilFunc] := by kernel_rfl
@[simp] theorem f_sz159 : szT Tryz.prog 159 = some 1 := by kernel_rfl
@[simp] theorem f_ag159 : aggT Tryz.prog 159 = some false := by kernel_rfl
@[simp] theorem f_ib159 : isBoolT Tryz.prog 159 = false := by kernel_rfl
@[simp] theorem f_is159 : isSlT Tryz.prog 159 = false := by kernel_rfl
@[simp] theorem f_by159 : byT Tryz.prog 159 = some 8 := by kernel_rfl
@[simp] theorem f_z159 : zT Tryz.prog 159 = some [.nilFunc] := by kernel_rfl
@[simp] theorem f_sz160 : szT Tryz.prog 160 = some 1 := by kernel_rfl
@[simp] theorem f_ag160 : aggT Tryz.prog 160 = some false := by kernel_rfl
@[simp] theorem f_ib160 : isBoolT Tryz.prog 160 = false := by kernel_rfl
@[simp] theorem f_is160 : isSlT Tryz.prog 160 = false := by kernel_rfl
@[simp] theorem f_by160 : byT Tryz.prog 160 = some 8 := by kernel_rfl
@[simp] theorem f_z160 : zT Tryz.prog 160 = some [.nilFunc] := by kernel_rfl
@[simp] theorem f_sz161 : szT Tryz.prog 161 = some 1 := by kernel_rfl
@[simp] theorem f_ag161 : aggT Tryz.prog 161 = some false := by kernel_rfl
@[simp] theorem f_ib161 : isBoolT Tryz.prog 161 = false := by kernel_rfl
@[simp] theorem f_is161 : isSlT Tryz.prog 161 = false := by kernel_rfl
@[simp] theorem f_by161 : byT Tryz.prog 161 = some 8 := by kernel_rfl
@[simp] theorem f_z161 : zT Tryz.prog 161 = some [.nilFunc] := by kernel_rfl
@[simp] theorem f_sz162 : szT Tryz.prog 162 = some 1 := by kernel_rfl
@[simp] theorem f_ag162 : aggT Tryz.prog 162 = some false := by kernel_rfl
@[simp] theorem f_ib162 : isBoolT Tryz.prog 162 = false := by kernel_rfl
@[simp] theorem f_is162 : isSlT Tryz.prog 162 = true := by kernel_rfl
@[simp] theorem f_by162 : byT Tryz.prog 162 = some 24 := by kernel_rfl
@[simp] theorem f_z162 : zT Tryz.prog 162 = some [.slice none 0 0] := by kernel_rfl
@[simp] theorem f_sl162 : slT Tryz.prog 162 = some 1 := by kernel_rfl
@[simp] theorem f_el162 : elT Tryz.prog 162 = some 3 := by kernel_rfl
@[simp] theorem f_sz164 : szT Tryz.prog 164 = some 1 := by kernel_rfl
@[simp] theorem f_ag164 : aggT Tryz.prog 164 = some false := by kernel_rfl
@[simp] theorem f_ib164 : isBoolT Tryz.prog 164 = false := by kernel_rfl
@[simp] theorem f_is164 : isSlT Tryz.prog 164 = false := by kernel_rfl
@[simp] theorem f_by164 : byT Tryz.prog 164 = some 8 := by kernel_rfl
@[simp] theorem f_z164 : zT Tryz.prog 164 = some [.nilFunc] := by kernel_rfl
@[simp] theorem f_sz165 : szT Tryz.prog 165 = some 1 := by kernel_rfl
@[simp] theorem f_ag165 : aggT Tryz.prog 165 = some false := by kernel_rfl
@[simp] theorem f_ib165 : isBoolT Tryz.prog 165 = false := by kernel_rfl
@[simp] theorem f_is165 : isSlT Tryz.prog 165 = true := by kernel_rfl
@[simp] theorem f_by165 : byT Tryz.prog 165 = some 24 := by kernel_rfl
@[simp] theorem f_z165 : zT Tryz.prog 165 = some [.slice none 0 0] := by kernel_rfl
@[simp] theorem f_sl165 : slT Tryz.prog 165 = some 1 := by kernel_rfl
@[simp] theorem f_el165 : elT Tryz.prog 165 = some 3 := by kernel_rfl
@[simp] theorem f_sz167 : szT Tryz.prog 167 = some 1 := by kernel_rfl
@[simp] theorem f_ag167 : aggT Tryz.prog 167 = some false := by kernel_rfl
@[simp] theorem f_ib167 : isBoolT Tryz.prog 167 = false := by kernel_rfl
@[simp] theorem f_is167 : isSlT Tryz.prog 167 = false := by kernel_rfl
@[simp] theorem f_by167 : byT Tryz.prog 167 = some 8 := by kernel_rfl
@[simp] theorem f_z167 : zT Tryz.prog 167 = some [.nilFunc] := by kernel_rfl
@[simp] theorem f_sz168 : szT Tryz.prog 168 = some 1 := by kernel_rfl
@[simp] theorem f_ag168 : aggT Tryz.prog 168 = some false := by kernel_rfl
@[simp] theorem f_ib168 : isBoolT Tryz.prog 168 = false := by kernel_rfl
@[simp] theorem f_is168 : isSlT Tryz.prog 168 = false := by kernel_rfl
@[simp] theorem f_by168 : byT Tryz.prog 168 = some 8 := by kernel_rfl
@[simp] theorem f_z168 : zT Tryz.prog 168 = some [.nilFunc] := by kernel_rfl
@[simp] theorem f_sz169 : szT Tryz.prog 169 = some 2 := by kernel_rfl
@[simp] theorem f_ag169 : aggT Tryz.prog 169 = some true := by kernel_rfl
@[simp] theorem f_ib169 : isBoolT Tryz.prog 169 = false := by kernel_rfl
@[simp] theorem f_is169 : isSlT Tryz.prog 169 = false := by kernel_rfl
@[simp] theorem f_by169 : byT Tryz.prog 169 = some 32 := by kernel_rfl
@[simp] theorem f_z169 : zT Tryz.prog 169 = some [.int .i64 0, .slice none 0 0] := by kernel_rfl
@[simp] theorem f_ok169 : fldsOk Tryz.prog 169 = true := by kernel_rfl
@[simp] theorem f_fld169_0 : fldT Tryz.prog 169 0 = some (0, 1) := by kernel_rfl
@[simp] theorem f_fldA169_0 : fldA Tryz.prog 169 0 = some false := by kernel_rfl
@[simp] theorem f_pl169_0 : placeT Tryz.prog 169 0 = some (0, 1) := by kernel_rfl
@[simp] theorem f_fld169_1 : fldT Tryz.prog 169 1 = some (1, 1) := by kernel_rfl
@[simp] theorem f_fldA169_1 : fldA Tryz.prog 169 1 = some false := by kernel_rfl
@[simp] theorem f_pl169_1 : placeT Tryz.prog 169 1 = some (1, 1) := by kernel_rfl
@[simp] theorem f_sz170 : szT Tryz.prog 170 = some 2 := by kernel_rfl
@[simp] theorem f_ag170 : aggT Tryz.prog 170 = some true := by kernel_rfl
@[simp] theorem f_ib170 : isBoolT Tryz.prog 170 = false := by kernel_rfl
@[simp] theorem f_is170 : isSlT Tryz.prog 170 = false := by kernel_rfl
@[simp] theorem f_by170 : byT Tryz.prog 170 = some 32 := by kernel_rfl
@[simp] theorem f_z170 : zT Tryz.prog 170 = some [.int .i64 0, .slice none 0 0] := by kernel_rfl
@[simp] theorem f_ok170 : fldsOk Tryz.prog 170 = true := by kernel_rfl
@[simp] theorem f_fld170_0 : fldT Tryz.prog 170 0 = some (0, 1) := by kernel_rfl
@[simp] theorem f_fldA170_0 : fldA Tryz.prog 170 0 = some false := by kernel_rfl
@[simp] theorem f_pl170_0 : placeT Tryz.prog 170 0 = some (0, 1) := by kernel_rfl
@[simp] theorem f_fld170_1 : fldT Tryz.prog 170 1 = some (1, 1) := by kernel_rfl
@[simp] theorem f_fldA170_1 : fldA Tryz.prog 170 1 = some false := by kernel_rfl
@[simp] theorem f_pl170_1 : placeT Tryz.prog 170 1 = some (1, 1) := by kernel_rfl
@[simp] theorem f_sz171 : szT Tryz.prog 171 = some 1 := by kernel_rfl
@[simp] theorem f_ag171 : aggT Tryz.prog 171 = some false := by kernel_rfl
@[simp] theorem f_ib171 : isBoolT Tryz.prog 171 = false := by kernel_rfl
@[simp] theorem f_is171 : isSlT Tryz.prog 171 = true := by kernel_rfl
@[simp] theorem f_by171 : byT Tryz.prog 171 = some 24 := by kernel_rfl
@[simp] theorem f_z171 : zT Tryz.prog 171 = some [.slice none 0 0] := by kernel_rfl
@[simp] theorem f_sl171 : slT Tryz.prog 171 = some 2 := by kernel_rfl
@[simp] theorem f_el171 : elT Tryz.prog 171 = some 170 := by kernel_rfl
@[simp] theorem f_sz172 : szT Tryz.prog 172 = some 1 := by kernel_rfl
@[simp] theorem f_ag172 : aggT Tryz.prog 172 = some false := by kernel_rfl
@[simp] theorem f_ib172 : isBoolT Tryz.prog 172 = false := by kernel_rfl
@[simp] theorem f_is172 : isSlT Tryz.prog 172 = true := by kernel_rfl
@[simp] theorem f_by172 : byT Tryz.prog 172 = some 24 := by kernel_rfl
@[simp] theorem f_z172 : zT Tryz.prog 172 = some [.slice none 0 0] := by kernel_rfl
@[simp] theorem f_sl172 : slT Tryz.prog 172 = some 2 := by kernel_rfl
@[simp] theorem f_el172 : elT Tryz.prog 172 = some 177 := by kernel_rfl
@[simp] theorem f_sz173 : szT Tryz.prog 173 = some 3 := by kernel_rfl
@[simp] theorem f_ag173 : aggT Tryz.prog 173 = some true := by kernel_rfl
@[simp] theorem f_ib173 : isBoolT Tryz.prog 173 = false := by kernel_rfl
@[simp] theorem f_is173 : isSlT Tryz.prog 173 = false := by kernel_rfl
@[simp] theorem f_by173 : byT Tryz.prog 173 = some 56 := by kernel_rfl
@[simp] theorem f_z173 : zT Tryz.prog 173 = some [.int .i64 0, .slice none 0 0, .slice none 0 0] := by kernel_rfl
@[simp] theorem f_ok173 : fldsOk Tryz.prog 173 = true := by kernel_rfl
@[simp] theorem f_fld173_0 : fldT Tryz.prog 173 0 = some (0, 1) := by kernel_rfl
@[simp] theorem f_fldA173_0 : fldA Tryz.prog 173 0 = some false := by kernel_rfl
@[simp] theorem f_pl173_0 : placeT Tryz.prog 173 0 = some (0, 1) := by kernel_rfl
@[simp] theorem f_fld173_1 : fldT Tryz.prog 173 1 = some (1, 1) := by kernel_rfl
@[simp] theorem f_fldA173_1 : fldA Tryz.prog 173 1 = some false := by kernel_rfl
@[simp] theorem f_pl173_1 : placeT Tryz.prog 173 1 = some (1, 1) := by kernel_rfl
@[simp] theorem f_fld173_2 : fldT Tryz.prog 173 2 = some (2, 1) := by kernel_rfl
@[simp] theorem f_fldA173_2 : fldA Tryz.prog 173 2 = some false := by kernel_rfl
@[simp] theorem f_pl173_2 : placeT Tryz.prog 173 2 = some (2, 1) := by kernel_rfl
@[simp] theorem f_sz174 : szT Tryz.prog 174 = some 3 := by kernel_rfl
@[simp] theorem f_ag174 : aggT Tryz.prog 174 = some true := by kernel_rfl
@[simp] theorem f_ib174 : isBoolT Tryz.prog 174 = false := by kernel_rfl
@[simp] theorem f_is174 : isSlT Tryz.prog 174 = false := by kernel_rfl
@[simp] theorem f_by174 : byT Tryz.prog 174 = some 56 := by kernel_rfl
@[simp] theorem f_z174 : zT Tryz.prog 174 = some [.int .i64 0, .slice none 0 0, .slice none 0 0] := by kernel_rfl
@[simp] theorem f_ok174 : fldsOk Tryz.prog 174 = true := by kernel_rfl
@[simp] theorem f_fld174_0 : fldT Tryz.prog 174 0 = some (0, 1) := by kernel_rfl
@[simp] theorem f_fldA174_0 : fldA Tryz.prog 174 0 = some false := by kernel_rfl
@[simp] theorem f_pl174_0 : placeT Tryz.prog 174 0 = some (0, 1) := by kernel_rfl
@[simp] theorem f_fld174_1 : fldT Tryz.prog 174 1 = some (1, 1) := by kernel_rfl
@[simp] theorem f_fldA174_1 : fldA Tryz.prog 174 1 = some false := by kernel_rfl
@[simp] theorem f_pl174_1 : placeT Tryz.prog 174 1 = some (1, 1) := by kernel_rfl
@[simp] theorem f_fld174_2 : fldT Tryz.prog 174 2 = some (2, 1) := by kernel_rfl
@[simp] theorem f_fldA174_2 : fldA Tryz.prog 174 2 = some false := by kernel_rfl
@[simp] theorem f_pl174_2 : placeT Tryz.prog 174 2 = some (2, 1) := by kernel_rfl
@[simp] theorem f_sz175 : szT Tryz.prog 175 = some 1 := by kernel_rfl
@[simp] theorem f_ag175 : aggT Tryz.prog 175 = some false := by kernel_rfl
@[simp] theorem f_ib175 : isBoolT Tryz.prog 175 = false := by kernel_rfl
@[simp] theorem f_is175 : isSlT Tryz.prog 175 = false := by kernel_rfl
@[simp] theorem f_by175 : byT Tryz.prog 175 = some 8 := by kernel_rfl
@[simp] theorem f_z175 : zT Tryz.prog 175 = some [.nilFunc] := by kernel_rfl
@[simp] theorem f_sz176 : szT Tryz.prog 176 = some 2 := by kernel_rfl
@[simp] theorem f_ag176 : aggT Tryz.prog 176 = some true := by kernel_rfl
@[simp] theorem f_ib176 : isBoolT Tryz.prog 176 = false := by kernel_rfl
@[simp] theorem f_is176 : isSlT Tryz.prog 176 = false := by kernel_rfl
@[simp] theorem f_by176 : byT Tryz.prog 176 = some 32 := by kernel_rfl
@[simp] theorem f_z176 : zT Tryz.prog 176 = some [.int .i64 0, .slice none 0 0] := by kernel_rfl
@[simp] theorem f_ok176 : fldsOk Tryz.prog 176 = true := by kernel_rfl
@[simp] theorem f_fld176_0 : fldT Tryz.prog 176 0 = some (0, 1) := by kernel_rfl
@[simp] theorem f_fldA176_0 : fldA Tryz.prog 176 0 = some false := by kernel_rfl
@[simp] theorem f_pl176_0 : placeT Tryz.prog 176 0 = some (0, 1) := by kernel_rfl
@[simp] theorem f_fld176_1 : fldT Tryz.prog 176 1 = some (1, 1) := by kernel_rfl
@[simp] theorem f_fldA176_1 : fldA Tryz.prog 176 1 = some false := by kernel_rfl
@[simp] theorem f_pl176_1 : placeT Tryz.prog 176 1 = some (1, 1) := by kernel_rfl
@[simp] theorem f_sz177 : szT Tryz.prog 177 = some 2 := by kernel_rfl
@[simp] theorem f_ag177 : aggT Tryz.prog 177 = some true := by kernel_rfl
@[simp] theorem f_ib177 : isBoolT Tryz.prog 177 = false := by kernel_rfl
@[simp] theorem f_is177 : isSlT Tryz.prog 177 = false := by kernel_rfl
@[simp] theorem f_by177 : byT Tryz.prog 177 = some 32 := by kernel_rfl
@[simp] theorem f_z177 : zT Tryz.prog 177 = some [.int .i64 0, .slice none 0 0] := by kernel_rfl
@[simp] theorem f_ok177 : fldsOk Tryz.prog 177 = true := by kernel_rfl
@[simp] theorem f_fld177_0 : fldT Tryz.prog 177 0 = some (0, 1) := by kernel_rfl
@[simp] theorem f_fldA177_0 : fldA Tryz.prog 177 0 = some false := by kernel_rfl
@[simp] theorem f_pl177_0 : placeT Tryz.prog 177 0 = some (0, 1) := by kernel_rfl
@[simp] theorem f_fld177_1 : fldT Tryz.prog 177 1 = some (1, 1) := by kernel_rfl
@[simp] theorem f_fldA177_1 : fldA Tryz.prog 177 1 = some false := by kernel_rfl
@[simp] theorem f_pl177_1 : placeT Tryz.prog 177 1 = some (1, 1) := by kernel_rfl
@[simp] theorem f_sz178 : szT Tryz.prog 178 = some 1 := by kernel_rfl
@[simp] theorem f_ag178 : aggT Tryz.prog 178 = some false := by kernel_rfl
@[simp] theorem f_ib178 : isBoolT Tryz.prog 178 = false := by kernel_rfl
@[simp] theorem f_is178 : isSlT Tryz.prog 178 = false := by kernel_rfl
@[simp] theorem f_by178 : byT Tryz.prog 178 = some 8 := by kernel_rfl
@[simp] theorem f_z178 : zT Tryz.prog 178 = some [.nilFunc] := by kernel_rfl
@[simp] theorem f_sz179 : szT Tryz.prog 179 = some 1 := by kernel_rfl
@[simp] theorem f_ag179 : aggT Tryz.prog 179 = some false := by kernel_rfl
@[simp] theorem f_ib179 : isBoolT Tryz.prog 179 = false := by kernel_rfl
@[simp] theorem f_is179 : isSlT Tryz.prog 179 = false := by kernel_rfl
@[simp] theorem f_by179 : byT Tryz.prog 179 = some 8 := by kernel_rfl
@[simp] theorem f_z179 : zT Tryz.prog 179 = some [.nilFunc] := by kernel_rfl
@[simp] theorem f_sz180 : szT Tryz.prog 180 = some 1 := by kernel_rfl
@[simp] theorem f_ag180 : aggT Tryz.prog 180 = some false := by kernel_rfl
@[simp] theorem f_ib180 : isBoolT Tryz.prog 180 = false := by kernel_rfl
@[simp] theorem f_is180 : isSlT Tryz.prog 180 = false := by kernel_rfl
@[simp] theorem f_by180 : byT Tryz.prog 180 = some 8 := by kernel_rfl
@[simp] theorem f_z180 : zT Tryz.prog 180 = some [.pointer none] := by kernel_rfl
@[simp] theorem f_sz181 : szT Tryz.prog 181 = some 2 := by kernel_rfl
@[simp] theorem f_ag181 : aggT Tryz.prog 181 = some true := by kernel_rfl
@[simp] theorem f_ib181 : isBoolT Tryz.prog 181 = false := by kernel_rfl
@[simp] theorem f_is181 : isSlT Tryz.prog 181 = false := by kernel_rfl
@[simp] theorem f_by181 : byT Tryz.prog 181 = some 32 := by kernel_rfl
@[simp] theorem f_z181 : zT Tryz.prog 181 = some [.pointer none, .slice none 0 0] := by kernel_rfl
@[simp] theorem f_ok181 : fldsOk Tryz.prog 181 = true := by kernel_rfl
@[simp] theorem f_fld181_0 : fldT Tryz.prog 181 0 = some (0, 1) := by kernel_rfl
@[simp] theorem f_fldA181_0 : fldA Tryz.prog 181 0 = some false := by kernel_rfl
@[simp] theorem f_pl181_0 : placeT Tryz.prog 181 0 = some (0, 1) := by kernel_rfl
@[simp] theorem f_fld181_1 : fldT Tryz.prog 181 1 = some (1, 1) := by kernel_rfl
@[simp] theorem f_fldA181_1 : fldA Tryz.prog 181 1 = some false := by kernel_rfl
@[simp] theorem f_pl181_1 : placeT Tryz.prog 181 1 = some (1, 1) := by kernel_rfl
@[simp] theorem f_sz182 : szT Tryz.prog 182 = some 2 := by kernel_rfl
@[simp] theorem f_ag182 : aggT Tryz.prog 182 = some true := by kernel_rfl
@[simp] theorem f_ib182 : isBoolT Tryz.prog 182 = false := by kernel_rfl
@[simp] theorem f_is182 : isSlT Tryz.prog 182 = false := by kernel_rfl
@[simp] theorem f_by182 : byT Tryz.prog 182 = some 32 := by kernel_rfl
@[simp] theorem f_z182 : zT Tryz.prog 182 = some [.pointer none, .slice none 0 0] := by kernel_rfl
@[simp] theorem f_ok182 : fldsOk Tryz.prog 182 = true := by kernel_rfl
@[simp] theorem f_fld182_0 : fldT Tryz.prog 182 0 = some (0, 1) := by kernel_rfl
@[simp] theorem f_fldA182_0 : fldA Tryz.prog 182 0 = some false := by kernel_rfl
@[simp] theorem f_pl182_0 : placeT Tryz.prog 182 0 = some (0, 1) := by kernel_rfl
@[simp] theorem f_fld182_1 : fldT Tryz.prog 182 1 = some (1, 1) := by kernel_rfl
@[simp] theorem f_fldA182_1 : fldA Tryz.prog 182 1 = some false := by kernel_rfl
@[simp] theorem f_pl182_1 : placeT Tryz.prog 182 1 = some (1, 1) := by kernel_rfl
@[simp] theorem f_sz183 : szT Tryz.prog 183 = some 1 := by kernel_rfl
@[simp] theorem f_ag183 : aggT Tryz.prog 183 = some false := by kernel_rfl
@[simp] theorem f_ib183 : isBoolT Tryz.prog 183 = false := by kernel_rfl
@[simp] theorem f_is183 : isSlT Tryz.prog 183 = false := by kernel_rfl
@[simp] theorem f_by183 : byT Tryz.prog 183 = some 8 := by kernel_rfl
@[simp] theorem f_z183 : zT Tryz.prog 183 = some [.nilFunc] := by kernel_rfl
@[simp] theorem f_sz184 : szT Tryz.prog 184 = some 1 := by kernel_rfl
@[simp] theorem f_ag184 : aggT Tryz.prog 184 = some false := by kernel_rfl
@[simp] theorem f_ib184 : isBoolT Tryz.prog 184 = false := by kernel_rfl
@[simp] theorem f_is184 : isSlT Tryz.prog 184 = false := by kernel_rfl
@[simp] theorem f_by184 : byT Tryz.prog 184 = some 8 := by kernel_rfl
@[simp] theorem f_z184 : zT Tryz.prog 184 = some [.nilFunc] := by kernel_rfl
@[simp] theorem f_sz185 : szT Tryz.prog 185 = some 1 := by kernel_rfl
@[simp] theorem f_ag185 : aggT Tryz.prog 185 = some false := by kernel_rfl
@[simp] theorem f_ib185 : isBoolT Tryz.prog 185 = false := by kernel_rfl
@[simp] theorem f_is185 : isSlT Tryz.prog 185 = false := by kernel_rfl
@[simp] theorem f_by185 : byT Tryz.prog 185 = some 8 := by kernel_rfl
@[simp] theorem f_z185 : zT Tryz.prog 185 = some [.int .i64 0] := by kernel_rfl
@[simp] theorem f_sz187 : szT Tryz.prog 187 = some 1 := by kernel_rfl
@[simp] theorem f_ag187 : aggT Tryz.prog 187 = some false := by kernel_rfl
@[simp] theorem f_ib187 : isBoolT Tryz.prog 187 = false := by kernel_rfl
@[simp] theorem f_is187 : isSlT Tryz.prog 187 = false := by kernel_rfl
@[simp] theorem f_by187 : byT Tryz.prog 187 = some 8 := by kernel_rfl
@[simp] theorem f_z187 : zT Tryz.prog 187 = some [.nilFunc] := by kernel_rfl
@[simp] theorem f_sz188 : szT Tryz.prog 188 = some 1 := by kernel_rfl
@[simp] theorem f_ag188 : aggT Tryz.prog 188 = some false := by kernel_rfl
@[simp] theorem f_ib188 : isBoolT Tryz.prog 188 = false := by kernel_rfl
@[simp] theorem f_is188 : isSlT Tryz.prog 188 = false := by kernel_rfl
@[simp] theorem f_by188 : byT Tryz.prog 188 = some 8 := by kernel_rfl
@[simp] theorem f_z188 : zT Tryz.prog 188 = some [.pointer none] := by kernel_rfl
@[simp] theorem f_sz189 : szT Tryz.prog 189 = some 1 := by kernel_rfl
@[simp] theorem f_ag189 : aggT Tryz.prog 189 = some false := by kernel_rfl
@[simp] theorem f_ib189 : isBoolT Tryz.prog 189 = false := by kernel_rfl
@[simp] theorem f_is189 : isSlT Tryz.prog 189 = false := by kernel_rfl
@[simp] theorem f_by189 : byT Tryz.prog 189 = some 8 := by kernel_rfl
@[simp] theorem f_z189 : zT Tryz.prog 189 = some [.nilFunc] := by kernel_rfl
@[simp] theorem f_sz190 : szT Tryz.prog 190 = some 1 := by kernel_rfl
@[simp] theorem f_ag190 : aggT Tryz.prog 190 = some false := by kernel_rfl
@[simp] theorem f_ib190 : isBoolT Tryz.prog 190 = false := by kernel_rfl
@[simp] theorem f_is190 : isSlT Tryz.prog 190 = false := by kernel_rfl
@[simp] theorem f_by190 : byT Tryz.prog 190 = some 8 := by kernel_rfl
@[simp] theorem f_z190 : zT Tryz.prog 190 = some [.nilFunc] := by kernel_rfl
@[simp] theorem f_sz191 : szT Tryz.prog 191 = some 1 := by kernel_rfl
@[simp] theorem f_ag191 : aggT Tryz.prog 191 = some false := by kernel_rfl
@[simp] theorem f_ib191 : isBoolT Tryz.prog 191 = false := by kernel_rfl
@[simp] theorem f_is191 : isSlT Tryz.prog 191 = false := by kernel_rfl
@[simp] theorem f_by191 : byT Tryz.prog 191 = some 8 := by kernel_rfl
@[simp] theorem f_z191 : zT Tryz.prog 191 = some [.nilFunc] := by kernel_rfl
@[simp] theorem f_sz192 : szT Tryz.prog 192 = some 1 := by kernel_rfl
@[simp] theorem f_ag192 : aggT Tryz.prog 192 = some false := by kernel_rfl
@[simp] theorem f_ib192 : isBoolT Tryz.prog 192 = false := by kernel_rfl
@[simp] theorem f_is192 : isSlT Tryz.prog 192 = false := by kernel_rfl
@[simp] theorem f_by192 : byT Tryz.prog 192 = some 8 := by kernel_rfl
@[simp] theorem f_z192 : zT Tryz.prog 192 = some [.nilFunc] := by kernel_rfl
@[simp] theorem f_sz193 : szT Tryz.prog 193 = some 1 := by kernel_rfl
@[simp] theorem f_ag193 : aggT Tryz.prog 193 = some false := by kernel_rfl
@[simp] theorem f_ib193 : isBoolT Tryz.prog 193 = false := by kernel_rfl
@[simp] theorem f_is193 : isSlT Tryz.prog 193 = false := by kernel_rfl
@[simp] theorem f_by193 : byT Tryz.prog 193 = some 8 := by kernel_rfl
@[simp] theorem f_z193 : zT Tryz.prog 193 = some [.nilFunc] := by kernel_rfl
@[simp] theorem f_sz194 : szT Tryz.prog 194 = some 1 := by kernel_rfl
@[simp] theorem f_ag194 : aggT Tryz.prog 194 = some false := by kernel_rfl
@[simp] theorem f_ib194 : isBoolT Tryz.prog 194 = false := by kernel_rfl
@[simp] theorem f_is194 : isSlT Tryz.prog 194 = false := by kernel_rfl
@[simp] theorem f_by194 : byT Tryz.prog 194 = some 8 := by kernel_rfl
@[simp] theorem f_z194 : zT Tryz.prog 194 = some [.nilFunc] := by kernel_rfl
@[simp] theorem f_sz195 : szT Tryz.prog 195 = some 1 := by kernel_rfl
@[simp] theorem f_ag195 : aggT Tryz.prog 195 = some false := by kernel_rfl
@[simp] theorem f_ib195 : isBoolT Tryz.prog 195 = false := by kernel_rfl
@[simp] theorem f_is195 : isSlT Tryz.prog 195 = false := by kernel_rfl
@[simp] theorem f_by195 : byT Tryz.prog 195 = some 8 := by kernel_rfl
@[simp] theorem f_z195 : zT Tryz.prog 195 = some [.nilFunc] := by kernel_rfl
@[simp] theorem f_sz196 : szT Tryz.prog 196 = some 1 := by kernel_rfl
@[simp] theorem f_ag196 : aggT Tryz.prog 196 = some false := by kernel_rfl
@[simp] theorem f_ib196 : isBoolT Tryz.prog 196 = false := by kernel_rfl
@[simp] theorem f_is196 : isSlT Tryz.prog 196 = false := by kernel_rfl
@[simp] theorem f_by196 : byT Tryz.prog 196 = some 8 := by kernel_rfl
@[simp] theorem f_z196 : zT Tryz.prog 196 = some [.nilFunc] := by kernel_rfl
@[simp] theorem f_sz197 : szT Tryz.prog 197 = some 1 := by kernel_rfl
@[simp] theorem f_ag197 : aggT Tryz.prog 197 = some false := by kernel_rfl
@[simp] theorem f_ib197 : isBoolT Tryz.prog 197 = false := by kernel_rfl
@[simp] theorem f_is197 : isSlT Tryz.prog 197 = false := by kernel_rfl
@[simp] theorem f_by197 : byT Tryz.prog 197 = some 8 := by kernel_rfl
@[simp] theorem f_z197 : zT Tryz.prog 197 = some [.map none] := by kernel_rfl
@[simp] theorem f_sz198 : szT Tryz.prog 198 = some 1 := by kernel_rfl
@[simp] theorem f_ag198 : aggT Tryz.prog 198 = some false := by kernel_rfl
@[simp] theorem f_ib198 : isBoolT Tryz.prog 198 = false := by kernel_rfl
@[simp] theorem f_is198 : isSlT Tryz.prog 198 = false := by kernel_rfl
@[simp] theorem f_by198 : byT Tryz.prog 198 = some 8 := by kernel_rfl
@[simp] theorem f_z198 : zT Tryz.prog 198 = some [.map none] := by kernel_rfl
@[simp] theorem f_sz199 : szT Tryz.prog 199 = some 1 := by kernel_rfl
@[simp] theorem f_ag199 : aggT Tryz.prog 199 = some false := by kernel_rfl
@[simp] theorem f_ib199 : isBoolT Tryz.prog 199 = false := by kernel_rfl
@[simp] theorem f_is199 : isSlT Tryz.prog 199 = false := by kernel_rfl
@[simp] theorem f_by199 : byT Tryz.prog 199 = some 8 := by kernel_rfl
@[simp] theorem f_z199 : zT Tryz.prog 199 = some [.nilFunc] := by kernel_rfl
@[simp] theorem f_sz200 : szT Tryz.prog 200 = some 1 := by kernel_rfl
@[simp] theorem f_ag200 : aggT Tryz.prog 200 = some false := by kernel_rfl
@[simp] theorem f_ib200 : isBoolT Tryz.prog 200 = false := by kernel_rfl
@[simp] theorem f_is200 : isSlT Tryz.prog 200 = false := by kernel_rfl
@[simp] theorem f_by200 : byT Tryz.prog 200 = some 8 := by kernel_rfl
@[simp] theorem f_z200 : zT Tryz.prog 200 = some [.nilFunc] := by kernel_rfl
@[simp] theorem f_sz201 : szT Tryz.prog 201 = some 1 := by kernel_rfl
@[simp] theorem f_ag201 : aggT Tryz.prog 201 = some false := by kernel_rfl
@[simp] theorem f_ib201 : isBoolT Tryz.prog 201 = false := by kernel_rfl
@[simp] theorem f_is201 : isSlT Tryz.prog 201 = true := by kernel_rfl
@[simp] theorem f_by201 : byT Tryz.prog 201 = some 24 := by kernel_rfl
@[simp] theorem f_z201 : zT Tryz.prog 201 = some [.slice none 0 0] := by kernel_rfl
@[simp] theorem f_sl201 : slT Tryz.prog 201 = some 1 := by kernel_rfl
@[simp] theorem f_el201 : elT Tryz.prog 201 = some 3 := by kernel_rfl
@[simp] theorem f_sz203 : szT Tryz.prog 203 = some 1 := by kernel_rfl
@[simp] theorem f_ag203 : aggT Tryz.prog 203 = some false := by kernel_rfl
@[simp] theorem f_ib203 : isBoolT Tryz.prog 203 = false := by kernel_rfl
@[simp] theorem f_is203 : isSlT Tryz.prog 203 = false := by kernel_rfl
@[simp] theorem f_by203 : byT Tryz.prog 203 = some 8 := by kernel_rfl
@[simp] theorem f_z203 : zT Tryz.prog 203 = some [.nilFunc] := by kernel_rfl
@[simp] theorem f_sz205 : szT Tryz.prog 205 = some 1 := by kernel_rfl
@[simp] theorem f_ag205 : aggT Tryz.prog 205 = some false := by kernel_rfl
@[simp] theorem f_ib205 : isBoolT Tryz.prog 205 = false := by kernel_rfl
@[simp] theorem f_is205 : isSlT Tryz.prog 205 = false := by kernel_rfl
@[simp] theorem f_by205 : byT Tryz.prog 205 = some 8 := by kernel_rfl
@[simp] theorem f_z205 : zT Tryz.prog 205 = some [.nilFunc] := by kernel_rfl
@[simp] theorem f_sz206 : szT Tryz.prog 206 = some 1 := by kernel_rfl
@[simp] theorem f_ag206 : aggT Tryz.prog 206 = some false := by kernel_rfl
@[simp] theorem f_ib206 : isBoolT Tryz.prog 206 = false := by kernel_rfl
@[simp] theorem f_is206 : isSlT Tryz.prog 206 = false := by kernel_rfl
@[simp] theorem f_by206 : byT Tryz.prog 206 = some 8 := by kernel_rfl
@[simp] theorem f_z206 : zT Tryz.prog 206 = some [.nilFunc] := by kernel_rfl
@[simp] theorem f_sz207 : szT Tryz.prog 207 = some 1 := by kernel_rfl
@[simp] theorem f_ag207 : aggT Tryz.prog 207 = some false := by kernel_rfl
@[simp] theorem f_ib207 : isBoolT Tryz.prog 207 = false := by kernel_rfl
@[simp] theorem f_is207 : isSlT Tryz.prog 207 = false := by kernel_rfl
@[simp] theorem f_by207 : byT Tryz.prog 207 = some 8 := by kernel_rfl
@[simp] theorem f_z207 : zT Tryz.prog 207 = some [.nilFunc] := by kernel_rfl
@[simp] theorem f_sz208 : szT Tryz.prog 208 = some 1 := by kernel_rfl
@[simp] theorem f_ag208 : aggT Tryz.prog 208 = some false := by kernel_rfl
@[simp] theorem f_ib208 : isBoolT Tryz.prog 208 = false := by kernel_rfl
@[simp] theorem f_is208 : isSlT Tryz.prog 208 = true := by kernel_rfl
@[simp] theorem f_by208 : byT Tryz.prog 208 = some 24 := by kernel_rfl
@[simp] theorem f_z208 : zT Tryz.prog 208 = some [.slice none 0 0] := by kernel_rfl
@[simp] theorem f_sl208 : slT Tryz.prog 208 = some 1 := by kernel_rfl
@[simp] theorem f_el208 : elT Tryz.prog 208 = some 3 := by kernel_rfl
@[simp] theorem f_sz210 : szT Tryz.prog 210 = some 1 := by kernel_rfl
@[simp] theorem f_ag210 : aggT Tryz.prog 210 = some false := by kernel_rfl
@[simp] theorem f_ib210 : isBoolT Tryz.prog 210 = false := by kernel_rfl
@[simp] theorem f_is210 : isSlT Tryz.prog 210 = false := by kernel_rfl
@[simp] theorem f_by210 : byT Tryz.prog 210 = some 8 := by kernel_rfl
@[simp] theorem f_z210 : zT Tryz.prog 210 = some [.nilFunc] := by kernel_rfl
@[simp] theorem f_sz211 : szT Tryz.prog 211 = some 1 := by kernel_rfl
@[simp] theorem f_ag211 : aggT Tryz.prog 211 = some false := by kernel_rfl
@[simp] theorem f_ib211 : isBoolT Tryz.prog 211 = false := by kernel_rfl
@[simp] theorem f_is211 : isSlT Tryz.prog 211 = false := by kernel_rfl
@[simp] theorem f_by211 : byT Tryz.prog 211 = some 8 := by kernel_rfl
@[simp] theorem f_z211 : zT Tryz.prog 211 = some [.nilFunc] := by kernel_rfl
@[simp] theorem f_sz212 : szT Tryz.prog 212 = some 1 := by kernel_rfl
@[simp] theorem f_ag212 : aggT Tryz.prog 212 = some false := by kernel_rfl
@[simp] theorem f_ib212 : isBoolT Tryz.prog 212 = false := by kernel_rfl
@[simp] theorem f_is212 : isSlT Tryz.prog 212 = false := by kernel_rfl
@[simp] theorem f_by212 : byT Tryz.prog 212 = some 8 := by kernel_rfl
@[simp] theorem f_z212 : zT Tryz.prog 212 = some [.nilFunc] := by kernel_rfl
@[simp] theorem f_sz213 : szT Tryz.prog 213 = some 1 := by kernel_rfl
@[simp] theorem f_ag213 : aggT Tryz.prog 213 = some false := by kernel_rfl
@[simp] theorem f_ib213 : isBoolT Tryz.prog 213 = false := by kernel_rfl
@[simp] theorem f_is213 : isSlT Tryz.prog 213 = false := by kernel_rfl
@[simp] theorem f_by213 : byT Tryz.prog 213 = some 8 := by kernel_rfl
@[simp] theorem f_z213 : zT Tryz.prog 213 = some [.nilFunc] := by kernel_rfl
@[simp] theorem f_sz214 : szT Tryz.prog 214 = some 1 := by kernel_rfl
@[simp] theorem f_ag214 : aggT Tryz.prog 214 = some false := by kernel_rfl
@[simp] theorem f_ib214 : isBoolT Tryz.prog 214 = false := by kernel_rfl
@[simp] theorem f_is214 : isSlT Tryz.prog 214 = false := by kernel_rfl
@[simp] theorem f_by214 : byT Tryz.prog 214 = some 8 := by kernel_rfl
@[simp] theorem f_z214 : zT Tryz.prog 214 = some [.int .u64 0] := by kernel_rfl
@[simp] theorem f_sz215 : szT Tryz.prog 215 = some 1 := by kernel_rfl
@[simp] theorem f_ag215 : aggT Tryz.prog 215 = some false := by kernel_rfl
@[simp] theorem f_ib215 : isBoolT Tryz.prog 215 = false := by kernel_rfl
@[simp] theorem f_is215 : isSlT Tryz.prog 215 = true := by kernel_rfl
@[simp] theorem f_by215 : byT Tryz.prog 215 = some 24 := by kernel_rfl
@[simp] theorem f_z215 : zT Tryz.prog 215 = some [.slice none 0 0] := by kernel_rfl
@[simp] theorem f_sl215 : slT Tryz.prog 215 = some 1 := by kernel_rfl
@[simp] theorem f_el215 : elT Tryz.prog 215 = some 3 := by kernel_rfl
@[simp] theorem f_sz216 : szT Tryz.prog 216 = some 1 := by kernel_rfl
@[simp] theorem f_ag216 : aggT Tryz.prog 216 = some false := by kernel_rfl
@[simp] theorem f_ib216 : isBoolT Tryz.prog 216 = false := by kernel_rfl
@[simp] theorem f_is216 : isSlT Tryz.prog 216 = false := by kernel_rfl
@[simp] theorem f_by216 : byT Tryz.prog 216 = some 8 := by kernel_rfl
@[simp] theorem f_z216 : zT Tryz.prog 216 = some [.pointer none] := by kernel_rfl
@[simp] theorem f_sz217 : szT Tryz.prog 217 = some 1 := by kernel_rfl
@[simp] theorem f_ag217 : aggT Tryz.prog 217 = some false := by kernel_rfl
@[simp] theorem f_ib217 : isBoolT Tryz.prog 217 = false := by kernel_rfl
@[simp] theorem f_is217 : isSlT Tryz.prog 217 = false := by kernel_rfl
@[simp] theorem f_by217 : byT Tryz.prog 217 = some 8 := by kernel_rfl
@[simp] theorem f_z217 : zT Tryz.prog 217 = some [.nilFunc] := by kernel_rfl
@[simp] theorem f_sz218 : szT Tryz.prog 218 = some 1 := by kernel_rfl
@[simp] theorem f_ag218 : aggT Tryz.prog 218 = some false := by kernel_rfl
@[simp] theorem f_ib218 : isBoolT Tryz.prog 218 = false := by kernel_rfl
@[simp] theorem f_is218 : isSlT Tryz.prog 218 = true := by kernel_rfl
@[simp] theorem f_by218 : byT Tryz.prog 218 = some 24 := by kernel_rfl
@[simp] theorem f_z218 : zT Tryz.prog 218 = some [.slice none 0 0] := by kernel_rfl
@[simp] theorem f_sl218 : slT Tryz.prog 218 = some 1 := by kernel_rfl
@[simp] theorem f_el218 : elT Tryz.prog 218 = some 84 := by kernel_rfl
@[simp] theorem f_sz219 : szT Tryz.prog 219 = some 3 := by kernel_rfl
@[simp] theorem f_ag219 : aggT Tryz.prog 219 = some true := by kernel_rfl
@[simp] theorem f_ib219 : isBoolT Tryz.prog 219 = false := by kernel_rfl
@[simp] theorem f_is219 : isSlT Tryz.prog 219 = false := by kernel_rfl
@[simp] theorem f_by219 : byT Tryz.prog 219 = some 72 := by kernel_rfl
@[simp] theorem f_z219 : zT Tryz.prog 219 = some [.slice none 0 0, .slice none 0 0, .slice none 0 0] := by kernel_rfl
@[simp] theorem f_ok219 : fldsOk Tryz.prog 219 = true := by kernel_rfl
@[simp] theorem f_fld219_0 : fldT Tryz.prog 219 0 = some (0, 1) := by kernel_rfl
@[simp] theorem f_fldA219_0 : fldA Tryz.prog 219 0 = some false := by kernel_rfl
@[simp] theorem f_pl219_0 : placeT Tryz.prog 219 0 = some (0, 1) := by kernel_rfl
@[simp] theorem f_fld219_1 : fldT Tryz.prog 219 1 = some (1, 1) := by kernel_rfl
@[simp] theorem f_fldA219_1 : fldA Tryz.prog 219 1 = some false := by kernel_rfl
@[simp] theorem f_pl219_1 : placeT Tryz.prog 219 1 = some (1, 1) := by kernel_rfl
@[simp] theorem f_fld219_2 : fldT Tryz.prog 219 2 = some (2, 1) := by kernel_rfl
@[simp] theorem f_fldA219_2 : fldA Tryz.prog 219 2 = some false := by kernel_rfl
@[simp] theorem f_pl219_2 : placeT Tryz.prog 219 2 = some (2, 1) := by kernel_rfl
@[simp] theorem f_sz220 : szT Tryz.prog 220 = some 3 := by kernel_rfl
@[simp] theorem f_ag220 : aggT Tryz.prog 220 = some true := by kernel_rfl
@[simp] theorem f_ib220 : isBoolT Tryz.prog 220 = false := by kernel_rfl
@[simp] theorem f_is220 : isSlT Tryz.prog 220 = false := by kernel_rfl
@[simp] theorem f_by220 : byT Tryz.prog 220 = some 72 := by kernel_rfl
@[simp] theorem f_z220 : zT Tryz.prog 220 = some [.slice none 0 0, .slice none 0 0, .slice none 0 0] := by kernel_rfl
@[simp] theorem f_ok220 : fldsOk Tryz.prog 220 = true := by kernel_rfl
@[simp] theorem f_fld220_0 : fldT Tryz.prog 220 0 = some (0, 1) := by kernel_rfl
@[simp] theorem f_fldA220_0 : fldA Tryz.prog 220 0 = some false := by kernel_rfl
@[simp] theorem f_pl220_0 : placeT Tryz.prog 220 0 = some (0, 1) := by kernel_rfl
@[simp] theorem f_fld220_1 : fldT Tryz.prog 220 1 = some (1, 1) := by kernel_rfl
@[simp] theorem f_fldA220_1 : fldA Tryz.prog 220 1 = some false := by kernel_rfl
@[simp] theorem f_pl220_1 : placeT Tryz.prog 220 1 = some (1, 1) := by kernel_rfl
@[simp] theorem f_fld220_2 : fldT Tryz.prog 220 2 = some (2, 1) := by kernel_rfl
@[simp] theorem f_fldA220_2 : fldA Tryz.prog 220 2 = some false := by kernel_rfl
@[simp] theorem f_pl220_2 : placeT Tryz.prog 220 2 = some (2, 1) := by kernel_rfl
@[simp] theorem f_sz221 : szT Tryz.prog 221 = some 1 := by kernel_rfl
@[simp] theorem f_ag221 : aggT Tryz.prog 221 = some false := by kernel_rfl
@[simp] theorem f_ib221 : isBoolT Tryz.prog 221 = false := by kernel_rfl
@[simp] theorem f_is221 : isSlT Tryz.prog 221 = false := by kernel_rfl
@[simp] theorem f_by221 : byT Tryz.prog 221 = some 8 := by kernel_rfl
@[simp] theorem f_z221 : zT Tryz.prog 221 = some [.nilFunc] := by kernel_rfl
@[simp] theorem f_sz222 : szT Tryz.prog 222 = some 1 := by kernel_rfl
@[simp] theorem f_ag222 : aggT Tryz.prog 222 = some false := by kernel_rfl
@[simp] theorem f_ib222 : isBoolT Tryz.prog 222 = false := by kernel_rfl
@[simp] theorem f_is222 : isSlT Tryz.prog 222 = false := by kernel_rfl
@[simp] theorem f_by222 : byT Tryz.prog 222 = some 8 := by kernel_rfl
@[simp] theorem f_z222 : zT Tryz.prog 222 = some [.pointer none] := by kernel_rfl
@[simp] theorem f_sz224 : szT Tryz.prog 224 = some 1 := by kernel_rfl
@[simp] theorem f_ag224 : aggT Tryz.prog 224 = some false := by kernel_rfl
@[simp] theorem f_ib224 : isBoolT Tryz.prog 224 = false := by kernel_rfl
@[simp] theorem f_is224 : isSlT Tryz.prog 224 = false := by kernel_rfl
@[simp] theorem f_by224 : byT Tryz.prog 224 = some 8 := by kernel_rfl
@[simp] theorem f_z224 : zT Tryz.prog 224 = some [.nilFunc] := by kernel_rfl
@[simp] theorem f_sz226 : szT Tryz.prog 226 = some 1 := by kernel_rfl
@[simp] theorem f_ag226 : aggT Tryz.prog 226 = some false := by kernel_rfl
@[simp] theorem f_ib226 : isBoolT Tryz.prog 226 = false := by kernel_rfl
@[simp] theorem f_is226 : isSlT Tryz.prog 226 = false := by kernel_rfl
@[simp] theorem f_by226 : byT Tryz.prog 226 = some 8 := by kernel_rfl
@[simp] theorem f_z226 : zT Tryz.prog 226 = some [.nilFunc] := by kernel_rfl
@[simp] theorem f_sz227 : szT Tryz.prog 227 = some 1 := by kernel_rfl
@[simp] theorem f_ag227 : aggT Tryz.prog 227 = some false := by kernel_rfl
@[simp] theorem f_ib227 : isBoolT Tryz.prog 227 = false := by kernel_rfl
@[simp] theorem f_is227 : isSlT Tryz.prog 227 = true := by kernel_rfl
@[simp] theorem f_by227 : byT Tryz.prog 227 = some 24 := by kernel_rfl
@[simp] theorem f_z227 : zT Tryz.prog 227 = some [.slice none 0 0] := by kernel_rfl
@[simp] theorem f_sl227 : slT Tryz.prog 227 = some 1 := by kernel_rfl
@[simp] theorem f_el227 : elT Tryz.prog 227 = some 3 := by kernel_rfl
@[simp] theorem f_sz229 : szT Tryz.prog 229 = some 1 := by kernel_rfl
@[simp] theorem f_ag229 : aggT Tryz.prog 229 = some false := by kernel_rfl
@[simp] theorem f_ib229 : isBoolT Tryz.prog 229 = false := by kernel_rfl
@[simp] theorem f_is229 : isSlT Tryz.prog 229 = false := by kernel_rfl
@[simp] theorem f_by229 : byT Tryz.prog 229 = some 8 := by kernel_rfl
@[simp] theorem f_z229 : zT Tryz.prog 229 = some [.nilFunc] := by kernel_rfl
@[simp] theorem f_sz230 : szT Tryz.prog 230 = some 1 := by kernel_rfl
@[simp] theorem f_ag230 : aggT Tryz.prog 230 = some false := by kernel_rfl
@[simp] theorem f_ib230 : isBoolT Tryz.prog 230 = false := by kernel_rfl
@[simp] theorem f_is230 : isSlT Tryz.prog 230 = false := by kernel_rfl
@[simp] theorem f_by230 : byT Tryz.prog 230 = some 8 := by kernel_rfl
@[simp] theorem f_z230 : zT Tryz.prog 230 = some [.nilFunc] := by kernel_rfl
@[simp] theorem f_sz231 : szT Tryz.prog 231 = some 24 := by kernel_rfl
@[simp] theorem f_ag231 : aggT Tryz.prog 231 = some true := by kernel_rfl
@[simp] theorem f_ib231 : isBoolT Tryz.prog 231 = false := by kernel_rfl
@[simp] theorem f_is231 : isSlT Tryz.prog 231 = false := by kernel_rfl
@[simp] theorem f_z231 : zT Tryz.prog 231 = some (List.replicate 24 (.int .u8 0)) := by kernel_rfl
@[simp] theorem f_ar231 : arT Tryz.prog 231 = some (24, 1) := by kernel_rfl
@[simp] theorem f_arA231 : arA Tryz.prog 231 = some false := by kernel_rfl
@[simp] theorem f_ok231 : fldsOk Tryz.prog 231 = true := by kernel_rfl
@[simp] theorem f_sz232 : szT Tryz.prog 232 = some 1 := by kernel_rfl
@[simp] theorem f_ag232 : aggT Tryz.prog 232 = some false := by kernel_rfl
@[simp] theorem f_ib232 : isBoolT Tryz.prog 232 = false := by kernel_rfl
@[simp] theorem f_is232 : isSlT Tryz.prog 232 = false := by kernel_rfl
@[simp] theorem f_by232 : byT Tryz.prog 232 = some 8 := by kernel_rfl
@[simp] theorem f_z232 : zT Tryz.prog 232 = some [.int .u64 0] := by kernel_rfl
@[simp] theorem f_sz233 : szT Tryz.prog 233 = some 1 := by kernel_rfl
@[simp] theorem f_ag233 : aggT Tryz.prog 233 = some false := by kernel_rfl
@[simp] theorem f_ib233 : isBoolT Tryz.prog 233 = false := by kernel_rfl
@[simp] theorem f_is233 : isSlT Tryz.prog 233 = false := by kernel_rfl
@[simp] theorem f_by233 : byT Tryz.prog 233 = some 8 := by kernel_rfl
@[simp] theorem f_z233 : zT Tryz.prog 233 = some [.nilFunc] := by kernel_rfl
@[simp] theorem f_sz234 : szT Tryz.prog 234 = some 1 := by kernel_rfl
@[simp] theorem f_ag234 : aggT Tryz.prog 234 = some false := by kernel_rfl
@[simp] theorem f_ib234 : isBoolT Tryz.prog 234 = false := by kernel_rfl
@[simp] theorem f_is234 : isSlT Tryz.prog 234 = false := by kernel_rfl
@[simp] theorem f_by234 : byT Tryz.prog 234 = some 8 := by kernel_rfl
@[simp] theorem f_z234 : zT Tryz.prog 234 = some [.nilFunc] := by kernel_rfl
@[simp] theorem f_sz236 : szT Tryz.prog 236 = some 1 := by kernel_rfl
@[simp] theorem f_ag236 : aggT Tryz.prog 236 = some false := by kernel_rfl
@[simp] theorem f_ib236 : isBoolT Tryz.prog 236 = false := by kernel_rfl
@[simp] theorem f_is236 : isSlT Tryz.prog 236 = false := by kernel_rfl
@[simp] theorem f_by236 : byT Tryz.prog 236 = some 8 := by kernel_rfl
@[simp] theorem f_z236 : zT Tryz.prog 236 = some [.nilFunc] := by kernel_rfl
@[simp] theorem f_sz237 : szT Tryz.prog 237 = some 1 := by kernel_rfl
@[simp] theorem f_ag237 : aggT Tryz.prog 237 = some false := by kernel_rfl
@[simp] theorem f_ib237 : isBoolT Tryz.prog 237 = false := by kernel_rfl
@[simp] theorem f_is237 : isSlT Tryz.prog 237 = false := by kernel_rfl
@[simp] theorem f_by237 : byT Tryz.prog 237 = some 8 := by kernel_rfl
@[simp] theorem f_z237 : zT Tryz.prog 237 = some [.pointer none] := by kernel_rfl
@[simp] theorem f_sz238 : szT Tryz.prog 238 = some 1 := by kernel_rfl
@[simp] theorem f_ag238 : aggT Tryz.prog 238 = some false := by kernel_rfl
@[simp] theorem f_ib238 : isBoolT Tryz.prog 238 = false := by kernel_rfl
@[simp] theorem f_is238 : isSlT Tryz.prog 238 = false := by kernel_rfl
@[simp] theorem f_by238 : byT Tryz.prog 238 = some 8 := by kernel_rfl
@[simp] theorem f_z238 : zT Tryz.prog 238 = some [.nilFunc] := by kernel_rfl
@[simp] theorem f_sz239 : szT Tryz.prog 239 = some 1 := by kernel_rfl
@[simp] theorem f_ag239 : aggT Tryz.prog 239 = some false := by kernel_rfl
@[simp] theorem f_ib239 : isBoolT Tryz.prog 239 = false := by kernel_rfl
@[simp] theorem f_is239 : isSlT Tryz.prog 239 = false := by kernel_rfl
@[simp] theorem f_by239 : byT Tryz.prog 239 = some 8 := by kernel_rfl
@[simp] theorem f_z239 : zT Tryz.prog 239 = some [.nilFunc] := by kernel_rfl
@[simp] theorem f_mp197 : mapT Tryz.prog 197 = some (3, 3) := by kernel_rfl
@[simp] theorem f_kk3 : keyK Tryz.prog 3 = some (.plain (.int .i64)) := by kernel_rfl
@[simp] theorem f_zv3 : zV Tryz.prog 3 = some (.int .i64 0) := by kernel_rfl
@[simp] theorem f_eq68 : eqT Tryz.prog 68 = some 2 := by kernel_rfl
@[simp] theorem f_eq119 : eqT Tryz.prog 119 = some 2 := by kernel_rfl
@[simp] theorem f_eq120 : eqT Tryz.prog 120 = some 2 := by kernel_rfl
@[simp] theorem f_eq123 : eqT Tryz.prog 123 = some 3 := by kernel_rfl
@[simp] theorem f_eq124 : eqT Tryz.prog 124 = some 3 := by kernel_rfl
@[simp] theorem f_cv2_232 : cvT Tryz.prog 2 232 = some .u64 := by kernel_rfl
@[simp] theorem f_cv3_5 : cvT Tryz.prog 3 5 = some .u8 := by kernel_rfl
@[simp] theorem f_cv3_214 : cvT Tryz.prog 3 214 = some .u64 := by kernel_rfl
@[simp] theorem f_cv3_232 : cvT Tryz.prog 3 232 = some .u64 := by kernel_rfl
@[simp] theorem f_cv5_3 : cvT Tryz.prog 5 3 = some .i64 := by kernel_rfl
@[simp] theorem f_cv5_21 : cvT Tryz.prog 5 21 = some .i32 := by kernel_rfl
@[simp] theorem f_cv5_232 : cvT Tryz.prog 5 232 = some .u64 := by kernel_rfl
@[simp] theorem f_cv214_3 : cvT Tryz.prog 214 3 = some .i64 := by kernel_rfl
@[simp] theorem f_cv232_2 : cvT Tryz.prog 232 2 = some .i64 := by kernel_rfl
@[simp] theorem f_cv232_3 : cvT Tryz.prog 232 3 = some .i64 := by kernel_rfl
@[simp] theorem f_cv232_5 : cvT Tryz.prog 232 5 = some .u8 := by kernel_rfl
@[simp] theorem nt4 : Tryz.f4.ntmps = 145 := rfl
@[simp] theorem re4 : Tryz.f4.results.toList = [.tmp 6] := rfl
theorem call4 : Callable Tryz.prog 4 := callable_of Tryz.func4 rfl (by kernel_rfl)
@[simp] theorem nt5 : Tryz.f5.ntmps = 31 := rfl
@[simp] theorem re5 : Tryz.f5.results.toList = [.tmp 2, .tmp 3, .tmp 4] := rfl
theorem call5 : Callable Tryz.prog 5 := callable_of Tryz.func5 rfl (by kernel_rfl)
@[simp] theorem nt6 : Tryz.f6.ntmps = 48 := rfl
@[simp] theorem re6 : Tryz.f6.results.toList = [.tmp 0] := rfl
theorem call6 : Callable Tryz.prog 6 := callable_of Tryz.func6 rfl (by kernel_rfl)
@[simp] theorem nt9 : Tryz.f9.ntmps = 37 := rfl
@[simp] theorem re9 : Tryz.f9.results.toList = [.tmp 4, .tmp 5] := rfl
theorem call9 : Callable Tryz.prog 9 := callable_of Tryz.func9 rfl (by kernel_rfl)
@[simp] theorem nt10 : Tryz.f10.ntmps = 19 := rfl
@[simp] theorem re10 : Tryz.f10.results.toList = [] := rfl
theorem call10 : Callable Tryz.prog 10 := callable_of Tryz.func10 rfl (by kernel_rfl)
@[simp] theorem nt11 : Tryz.f11.ntmps = 50 := rfl
@[simp] theorem re11 : Tryz.f11.results.toList = [] := rfl
theorem call11 : Callable Tryz.prog 11 := callable_of Tryz.func11 rfl (by kernel_rfl)
@[simp] theorem nt12 : Tryz.f12.ntmps = 91 := rfl
@[simp] theorem re12 : Tryz.f12.results.toList = [.tmp 2, .tmp 3] := rfl
theorem call12 : Callable Tryz.prog 12 := callable_of Tryz.func12 rfl (by kernel_rfl)
@[simp] theorem nt13 : Tryz.f13.ntmps = 40 := rfl
@[simp] theorem re13 : Tryz.f13.results.toList = [.tmp 6] := rfl
theorem call13 : Callable Tryz.prog 13 := callable_of Tryz.func13 rfl (by kernel_rfl)
@[simp] theorem nt14 : Tryz.f14.ntmps = 32 := rfl
@[simp] theorem re14 : Tryz.f14.results.toList = [.tmp 4] := rfl
theorem call14 : Callable Tryz.prog 14 := callable_of Tryz.func14 rfl (by kernel_rfl)
@[simp] theorem nt15 : Tryz.f15.ntmps = 41 := rfl
@[simp] theorem re15 : Tryz.f15.results.toList = [.tmp 6] := rfl
theorem call15 : Callable Tryz.prog 15 := callable_of Tryz.func15 rfl (by kernel_rfl)
@[simp] theorem nt16 : Tryz.f16.ntmps = 15 := rfl
@[simp] theorem re16 : Tryz.f16.results.toList = [.tmp 4] := rfl
theorem call16 : Callable Tryz.prog 16 := callable_of Tryz.func16 rfl (by kernel_rfl)
@[simp] theorem nt17 : Tryz.f17.ntmps = 46 := rfl
@[simp] theorem re17 : Tryz.f17.results.toList = [.tmp 4, .tmp 5] := rfl
theorem call17 : Callable Tryz.prog 17 := callable_of Tryz.func17 rfl (by kernel_rfl)
@[simp] theorem nt18 : Tryz.f18.ntmps = 16 := rfl
@[simp] theorem re18 : Tryz.f18.results.toList = [.tmp 4, .tmp 5] := rfl
theorem call18 : Callable Tryz.prog 18 := callable_of Tryz.func18 rfl (by kernel_rfl)
@[simp] theorem nt19 : Tryz.f19.ntmps = 75 := rfl
@[simp] theorem re19 : Tryz.f19.results.toList = [.tmp 2] := rfl
theorem call19 : Callable Tryz.prog 19 := callable_of Tryz.func19 rfl (by kernel_rfl)
@[simp] theorem nt20 : Tryz.f20.ntmps = 10 := rfl
@[simp] theorem re20 : Tryz.f20.results.toList = [.tmp 2] := rfl
theorem call20 : Callable Tryz.prog 20 := callable_of Tryz.func20 rfl (by kernel_rfl)
@[simp] theorem nt21 : Tryz.f21.ntmps = 12 := rfl
@[simp] theorem re21 : Tryz.f21.results.toList = [.tmp 2] := rfl
theorem call21 : Callable Tryz.prog 21 := callable_of Tryz.func21 rfl (by kernel_rfl)
@[simp] theorem nt22 : Tryz.f22.ntmps = 9 := rfl
@[simp] theorem re22 : Tryz.f22.results.toList = [.tmp 2] := rfl
theorem call22 : Callable Tryz.prog 22 := callable_of Tryz.func22 rfl (by kernel_rfl)
@[simp] theorem nt23 : Tryz.f23.ntmps = 13 := rfl
@[simp] theorem re23 : Tryz.f23.results.toList = [.tmp 2, .tmp 3] := rfl
theorem call23 : Callable Tryz.prog 23 := callable_of Tryz.func23 rfl (by kernel_rfl)
@[simp] theorem nt24 : Tryz.f24.ntmps = 13 := rfl
@[simp] theorem re24 : Tryz.f24.results.toList = [.tmp 2, .tmp 3] := rfl
theorem call24 : Callable Tryz.prog 24 := callable_of Tryz.func24 rfl (by kernel_rfl)
@[simp] theorem nt32 : Tryz.f32.ntmps = 15 := rfl
@[simp] theorem re32 : Tryz.f32.results.toList = [.tmp 4] := rfl
theorem call32 : Callable Tryz.prog 32 := callable_of Tryz.func32 rfl (by kernel_rfl)
@[simp] theorem nt33 : Tryz.f33.ntmps = 12 := rfl
@[simp] theorem re33 : Tryz.f33.results.toList = [.tmp 2] := rfl
theorem call33 : Callable Tryz.prog 33 := callable_of Tryz.func33 rfl (by kernel_rfl)
@[simp] theorem nt34 : Tryz.f34.ntmps = 17 := rfl
@[simp] theorem re34 : Tryz.f34.results.toList = [] := rfl
theorem call34 : Callable Tryz.prog 34 := callable_of Tryz.func34 rfl (by kernel_rfl)
@[simp] theorem nt35 : Tryz.f35.ntmps = 105 := rfl
@[simp] theorem re35 : Tryz.f35.results.toList = [.cell 2 74, .tmp 3] := rfl
theorem call35 : Callable Tryz.prog 35 := callable_of Tryz.func35 rfl (by kernel_rfl)
@[simp] theorem nt36 : Tryz.f36.ntmps = 18 := rfl
@[simp] theorem re36 : Tryz.f36.results.toList = [.tmp 2] := rfl
theorem call36 : Callable Tryz.prog 36 := callable_of Tryz.func36 rfl (by kernel_rfl)
@[simp] theorem nt37 : Tryz.f37.ntmps = 4 := rfl
@[simp] theorem re37 : Tryz.f37.results.toList = [.tmp 1] := rfl
theorem call37 : Callable Tryz.prog 37 := callable_of Tryz.func37 rfl (by kernel_rfl)
@[simp] theorem nt38 : Tryz.f38.ntmps = 4 := rfl
@[simp] theorem re38 : Tryz.f38.results.toList = [.tmp 1] := rfl
theorem call38 : Callable Tryz.prog 38 := callable_of Tryz.func38 rfl (by kernel_rfl)
@[simp] theorem nt39 : Tryz.f39.ntmps = 6 := rfl
@[simp] theorem re39 : Tryz.f39.results.toList = [.tmp 1] := rfl
theorem call39 : Callable Tryz.prog 39 := callable_of Tryz.func39 rfl (by kernel_rfl)
@[simp] theorem nt40 : Tryz.f40.ntmps = 19 := rfl
@[simp] theorem re40 : Tryz.f40.results.toList = [.tmp 2] := rfl
theorem call40 : Callable Tryz.prog 40 := callable_of Tryz.func40 rfl (by kernel_rfl)
@[simp] theorem nt41 : Tryz.f41.ntmps = 4 := rfl
@[simp] theorem re41 : Tryz.f41.results.toList = [.tmp 1] := rfl
theorem call41 : Callable Tryz.prog 41 := callable_of Tryz.func41 rfl (by kernel_rfl)
@[simp] theorem nt42 : Tryz.f42.ntmps = 3 := rfl
@[simp] theorem re42 : Tryz.f42.results.toList = [.tmp 0] := rfl
theorem call42 : Callable Tryz.prog 42 := callable_of Tryz.func42 rfl (by kernel_rfl)
@[simp] theorem nt46 : Tryz.f46.ntmps = 23 := rfl
@[simp] theorem re46 : Tryz.f46.results.toList = [.tmp 2] := rfl
theorem call46 : Callable Tryz.prog 46 := callable_of Tryz.func46 rfl (by kernel_rfl)
@[simp] theorem nt47 : Tryz.f47.ntmps = 30 := rfl
@[simp] theorem re47 : Tryz.f47.results.toList = [.tmp 2] := rfl
theorem call47 : Callable Tryz.prog 47 := callable_of Tryz.func47 rfl (by kernel_rfl)
@[simp] theorem nt48 : Tryz.f48.ntmps = 11 := rfl
@[simp] theorem re48 : Tryz.f48.results.toList = [.tmp 2] := rfl
theorem call48 : Callable Tryz.prog 48 := callable_of Tryz.func48 rfl (by kernel_rfl)
@[simp] theorem nt49 : Tryz.f49.ntmps = 96 := rfl
@[simp] theorem re49 : Tryz.f49.results.toList = [.tmp 4, .tmp 5, .tmp 6] := rfl
theorem call49 : Callable Tryz.prog 49 := callable_of Tryz.func49 rfl (by kernel_rfl)
@[simp] theorem nt50 : Tryz.f50.ntmps = 18 := rfl
@[simp] theorem re50 : Tryz.f50.results.toList = [.tmp 6] := rfl
theorem call50 : Callable Tryz.prog 50 := callable_of Tryz.func50 rfl (by kernel_rfl)
@[simp] theorem nt51 : Tryz.f51.ntmps = 12 := rfl
@[simp] theorem re51 : Tryz.f51.results.toList = [.tmp 2] := rfl
theorem call51 : Callable Tryz.prog 51 := callable_of Tryz.func51 rfl (by kernel_rfl)
@[simp] theorem nt52 : Tryz.f52.ntmps = 181 := rfl
@[simp] theorem re52 : Tryz.f52.results.toList = [.tmp 4, .tmp 5] := rfl
theorem call52 : Callable Tryz.prog 52 := callable_of Tryz.func52 rfl (by kernel_rfl)
@[simp] theorem nt58 : Tryz.f58.ntmps = 13 := rfl
@[simp] theorem re58 : Tryz.f58.results.toList = [.tmp 4, .tmp 5, .tmp 6] := rfl
theorem call58 : Callable Tryz.prog 58 := callable_of Tryz.func58 rfl (by kernel_rfl)
@[simp] theorem nt59 : Tryz.f59.ntmps = 11 := rfl
@[simp] theorem re59 : Tryz.f59.results.toList = [.tmp 4, .tmp 5] := rfl
theorem call59 : Callable Tryz.prog 59 := callable_of Tryz.func59 rfl (by kernel_rfl)
@[simp] theorem nt60 : Tryz.f60.ntmps = 18 := rfl
@[simp] theorem re60 : Tryz.f60.results.toList = [.tmp 2, .tmp 3] := rfl
theorem call60 : Callable Tryz.prog 60 := callable_of Tryz.func60 rfl (by kernel_rfl)
@[simp] theorem nt61 : Tryz.f61.ntmps = 18 := rfl
@[simp] theorem re61 : Tryz.f61.results.toList = [.tmp 2] := rfl
theorem call61 : Callable Tryz.prog 61 := callable_of Tryz.func61 rfl (by kernel_rfl)
@[simp] theorem nt62 : Tryz.f62.ntmps = 40 := rfl
@[simp] theorem re62 : Tryz.f62.results.toList = [.tmp 4] := rfl
theorem call62 : Callable Tryz.prog 62 := callable_of Tryz.func62 rfl (by kernel_rfl)
@[simp] theorem nt63 : Tryz.f63.ntmps = 33 := rfl
@[simp] theorem re63 : Tryz.f63.results.toList = [.tmp 4, .tmp 5] := rfl
theorem call63 : Callable Tryz.prog 63 := callable_of Tryz.func63 rfl (by kernel_rfl)
@[simp] theorem nt64 : Tryz.f64.ntmps = 16 := rfl
@[simp] theorem re64 : Tryz.f64.results.toList = [.tmp 2] := rfl
theorem call64 : Callable Tryz.prog 64 := callable_of Tryz.func64 rfl (by kernel_rfl)
@[simp] theorem nt68 : Tryz.f68.ntmps = 27 := rfl
@[simp] theorem re68 : Tryz.f68.results.toList = [.tmp 2] := rfl
theorem call68 : Callable Tryz.prog 68 := callable_of Tryz.func68 rfl (by kernel_rfl)
@[simp] theorem nt73 : Tryz.f73.ntmps = 37 := rfl
@[simp] theorem re73 : Tryz.f73.results.toList = [.tmp 2] := rfl
theorem call73 : Callable Tryz.prog 73 := callable_of Tryz.func73 rfl (by kernel_rfl)
@[simp] theorem nt74 : Tryz.f74.ntmps = 11 := rfl
@[simp] theorem re74 : Tryz.f74.results.toList = [.tmp 3] := rfl
theorem call74 : Callable Tryz.prog 74 := callable_of Tryz.func74 rfl (by kernel_rfl)
@[simp] theorem nt75 : Tryz.f75.ntmps = 9 := rfl
@[simp] theorem re75 : Tryz.f75.results.toList = [.tmp 2] := rfl
theorem call75 : Callable Tryz.prog 75 := callable_of Tryz.func75 rfl (by kernel_rfl)
@[simp] theorem nt79 : Tryz.f79.ntmps = 31 := rfl
@[simp] theorem re79 : Tryz.f79.results.toList = [.tmp 2] := rfl
theorem call79 : Callable Tryz.prog 79 := callable_of Tryz.func79 rfl (by kernel_rfl)
@[simp] theorem nt91 : Tryz.f91.ntmps = 75 := rfl
@[simp] theorem re91 : Tryz.f91.results.toList = [.tmp 4] := rfl
theorem call91 : Callable Tryz.prog 91 := callable_of Tryz.func91 rfl (by kernel_rfl)
@[simp] theorem nt92 : Tryz.f92.ntmps = 18 := rfl
@[simp] theorem re92 : Tryz.f92.results.toList = [.tmp 6] := rfl
theorem call92 : Callable Tryz.prog 92 := callable_of Tryz.func92 rfl (by kernel_rfl)
@[simp] theorem nt94 : Tryz.f94.ntmps = 23 := rfl
@[simp] theorem re94 : Tryz.f94.results.toList = [.tmp 4, .tmp 5, .tmp 6] := rfl
theorem call94 : Callable Tryz.prog 94 := callable_of Tryz.func94 rfl (by kernel_rfl)
@[simp] theorem nt95 : Tryz.f95.ntmps = 15 := rfl
@[simp] theorem re95 : Tryz.f95.results.toList = [.tmp 4, .tmp 5] := rfl
theorem call95 : Callable Tryz.prog 95 := callable_of Tryz.func95 rfl (by kernel_rfl)
@[simp] theorem nt96 : Tryz.f96.ntmps = 77 := rfl
@[simp] theorem re96 : Tryz.f96.results.toList = [.tmp 2, .tmp 3] := rfl
theorem call96 : Callable Tryz.prog 96 := callable_of Tryz.func96 rfl (by kernel_rfl)
@[simp] theorem nt97 : Tryz.f97.ntmps = 43 := rfl
@[simp] theorem re97 : Tryz.f97.results.toList = [.tmp 10] := rfl
theorem call97 : Callable Tryz.prog 97 := callable_of Tryz.func97 rfl (by kernel_rfl)
@[simp] theorem nt98 : Tryz.f98.ntmps = 9 := rfl
@[simp] theorem re98 : Tryz.f98.results.toList = [.tmp 4] := rfl
theorem call98 : Callable Tryz.prog 98 := callable_of Tryz.func98 rfl (by kernel_rfl)
@[simp] theorem nt99 : Tryz.f99.ntmps = 8 := rfl
@[simp] theorem re99 : Tryz.f99.results.toList = [.tmp 4] := rfl
theorem call99 : Callable Tryz.prog 99 := callable_of Tryz.func99 rfl (by kernel_rfl)
@[simp] theorem nt100 : Tryz.f100.ntmps = 9 := rfl
@[simp] theorem re100 : Tryz.f100.results.toList = [.tmp 4] := rfl
theorem call100 : Callable Tryz.prog 100 := callable_of Tryz.func100 rfl (by kernel_rfl)
@[simp] theorem nt101 : Tryz.f101.ntmps = 9 := rfl
@[simp] theorem re101 : Tryz.f101.results.toList = [.tmp 2] := rfl
theorem call101 : Callable Tryz.prog 101 := callable_of Tryz.func101 rfl (by kernel_rfl)
@[simp] theorem nt102 : Tryz.f102.ntmps = 11 := rfl
@[simp] theorem re102 : Tryz.f102.results.toList = [.tmp 4] := rfl
theorem call102 : Callable Tryz.prog 102 := callable_of Tryz.func102 rfl (by kernel_rfl)
@[simp] theorem nt103 : Tryz.f103.ntmps = 9 := rfl
@[simp] theorem re103 : Tryz.f103.results.toList = [.tmp 2] := rfl
theorem call103 : Callable Tryz.prog 103 := callable_of Tryz.func103 rfl (by kernel_rfl)
@[simp] theorem nt111 : Tryz.f111.ntmps = 8 := rfl
@[simp] theorem re111 : Tryz.f111.results.toList = [.tmp 2] := rfl
theorem call111 : Callable Tryz.prog 111 := callable_of Tryz.func111 rfl (by kernel_rfl)
@[simp] theorem nt112 : Tryz.f112.ntmps = 8 := rfl
@[simp] theorem re112 : Tryz.f112.results.toList = [.tmp 2] := rfl
theorem call112 : Callable Tryz.prog 112 := callable_of Tryz.func112 rfl (by kernel_rfl)
@[simp] theorem nt113 : Tryz.f113.ntmps = 8 := rfl
@[simp] theorem re113 : Tryz.f113.results.toList = [.tmp 2] := rfl
theorem call113 : Callable Tryz.prog 113 := callable_of Tryz.func113 rfl (by kernel_rfl)
@[simp] theorem nt114 : Tryz.f114.ntmps = 8 := rfl
@[simp] theorem re114 : Tryz.f114.results.toList = [.tmp 2] := rfl
theorem call114 : Callable Tryz.prog 114 := callable_of Tryz.func114 rfl (by kernel_rfl)
@[simp] theorem nt115 : Tryz.f115.ntmps = 8 := rfl
@[simp] theorem re115 : Tryz.f115.results.toList = [.tmp 2] := rfl
theorem call115 : Callable Tryz.prog 115 := callable_of Tryz.func115 rfl (by kernel_rfl)
@[simp] theorem nt119 : Tryz.f119.ntmps = 30 := rfl
@[simp] theorem re119 : Tryz.f119.results.toList = [.tmp 4] := rfl
theorem call119 : Callable Tryz.prog 119 := callable_of Tryz.func119 rfl (by kernel_rfl)
@[simp] theorem nt122 : Tryz.f122.ntmps = 22 := rfl
@[simp] theorem re122 : Tryz.f122.results.toList = [.tmp 2] := rfl
theorem call122 : Callable Tryz.prog 122 := callable_of Tryz.func122 rfl (by kernel_rfl)
@[simp] theorem nt123 : Tryz.f123.ntmps = 9 := rfl
@[simp] theorem re123 : Tryz.f123.results.toList = [.tmp 4] := rfl
theorem call123 : Callable Tryz.prog 123 := callable_of Tryz.func123 rfl (by kernel_rfl)
@[simp] theorem nt134 : Tryz.f134.ntmps = 19 := rfl
@[simp] theorem re134 : Tryz.f134.results.toList = [.tmp 4] := rfl
theorem call134 : Callable Tryz.prog 134 := callable_of Tryz.func134 rfl (by kernel_rfl)
@[simp] theorem nt140 : Tryz.f140.ntmps = 143 := rfl
@[simp] theorem re140 : Tryz.f140.results.toList = [.tmp 4] := rfl
theorem call140 : Callable Tryz.prog 140 := callable_of Tryz.func140 rfl (by kernel_rfl)
@[simp] theorem nt141 : Tryz.f141.ntmps = 18 := rfl
@[simp] theorem re141 : Tryz.f141.results.toList = [.tmp 4] := rfl
theorem call141 : Callable Tryz.prog 141 := callable_of Tryz.func141 rfl (by kernel_rfl)
@[simp] theorem nt142 : Tryz.f142.ntmps = 73 := rfl
@[simp] theorem re142 : Tryz.f142.results.toList = [.tmp 6, .tmp 7] := rfl
theorem call142 : Callable Tryz.prog 142 := callable_of Tryz.func142 rfl (by kernel_rfl)
@[simp] theorem nt143 : Tryz.f143.ntmps = 11 := rfl
@[simp] theorem re143 : Tryz.f143.results.toList = [.tmp 4] := rfl
theorem call143 : Callable Tryz.prog 143 := callable_of Tryz.func143 rfl (by kernel_rfl)
@[simp] theorem nt147 : Tryz.f147.ntmps = 66 := rfl
@[simp] theorem re147 : Tryz.f147.results.toList = [.tmp 8] := rfl
theorem call147 : Callable Tryz.prog 147 := callable_of Tryz.func147 rfl (by kernel_rfl)
@[simp] theorem nt148 : Tryz.f148.ntmps = 19 := rfl
@[simp] theorem re148 : Tryz.f148.results.toList = [.tmp 4] := rfl
theorem call148 : Callable Tryz.prog 148 := callable_of Tryz.func148 rfl (by kernel_rfl)
@[simp] theorem nt159 : Tryz.f159.ntmps = 14 := rfl
@[simp] theorem re159 : Tryz.f159.results.toList = [] := rfl
theorem call159 : Callable Tryz.prog 159 := callable_of Tryz.func159 rfl (by kernel_rfl)
@[simp] theorem nt160 : Tryz.f160.ntmps = 21 := rfl
@[simp] theorem re160 : Tryz.f160.results.toList = [.tmp 5] := rfl
theorem call160 : Callable Tryz.prog 160 := callable_of Tryz.func160 rfl (by kernel_rfl)
@[simp] theorem nt165 : Tryz.f165.ntmps = 8 := rfl
@[simp] theorem re165 : Tryz.f165.results.toList = [.tmp 2] := rfl
theorem call165 : Callable Tryz.prog 165 := callable_of Tryz.func165 rfl (by kernel_rfl)
@[simp] theorem nt189 : Tryz.f189.ntmps = 8 := rfl
@[simp] theorem re189 : Tryz.f189.results.toList = [.tmp 4] := rfl
theorem call189 : Callable Tryz.prog 189 := callable_of Tryz.func189 rfl (by kernel_rfl)
@[simp] theorem nt194 : Tryz.f194.ntmps = 18 := rfl
@[simp] theorem re194 : Tryz.f194.results.toList = [.tmp 2] := rfl
theorem call194 : Callable Tryz.prog 194 := callable_of Tryz.func194 rfl (by kernel_rfl)
@[simp] theorem nt197 : Tryz.f197.ntmps = 34 := rfl
@[simp] theorem re197 : Tryz.f197.results.toList = [.tmp 4] := rfl
theorem call197 : Callable Tryz.prog 197 := callable_of Tryz.func197 rfl (by kernel_rfl)
@[simp] theorem nt198 : Tryz.f198.ntmps = 8 := rfl
@[simp] theorem re198 : Tryz.f198.results.toList = [.tmp 4] := rfl
theorem call198 : Callable Tryz.prog 198 := callable_of Tryz.func198 rfl (by kernel_rfl)
@[simp] theorem nt214 : Tryz.f214.ntmps = 148 := rfl
@[simp] theorem re214 : Tryz.f214.results.toList = [] := rfl
theorem call214 : Callable Tryz.prog 214 := callable_of Tryz.func214 rfl (by kernel_rfl)
@[simp] theorem nt231 : Tryz.f231.ntmps = 19 := rfl
@[simp] theorem re231 : Tryz.f231.results.toList = [.tmp 2] := rfl
theorem call231 : Callable Tryz.prog 231 := callable_of Tryz.func231 rfl (by kernel_rfl)
@[simp] theorem nt232 : Tryz.f232.ntmps = 25 := rfl
@[simp] theorem re232 : Tryz.f232.results.toList = [.tmp 2] := rfl
theorem call232 : Callable Tryz.prog 232 := callable_of Tryz.func232 rfl (by kernel_rfl)
@[simp] theorem nt282 : Tryz.f282.ntmps = 53 := rfl
@[simp] theorem re282 : Tryz.f282.results.toList = [] := rfl
theorem call282 : Callable Tryz.prog 282 := callable_of Tryz.func282 rfl (by kernel_rfl)
end Go.Proofs.YtpcmmjmoiplhjaaGreatDoor
