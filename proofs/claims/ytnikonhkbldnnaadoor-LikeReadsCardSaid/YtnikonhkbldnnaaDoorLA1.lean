import Derived.Test.YtnikonhkbldnnaaDoorProg
import Derived.Test.YtnikonhkbldnnaaDoorPSC
import Derived.KernelRfl
set_option linter.unusedVariables false
set_option linter.unusedSimpArgs false
set_option maxRecDepth 20000
namespace Go.Proofs.YtnikonhkbldnnaaDoor
open Go Go.PS
theorem mixed : Tryd.prog.follows .mixedOrders = true := by kernel_rfl

@[simp] theorem f_sz1 : szT Tryd.prog 1 = some 1 := by kernel_rfl
@[simp] theorem f_ag1 : aggT Tryd.prog 1 = some false := by kernel_rfl
@[simp] theorem f_ib1 : isBoolT Tryd.prog 1 = false := by kernel_rfl
@[simp] theorem f_is1 : isSlT Tryd.prog 1 = false := by kernel_rfl
@[simp] theorem f_by1 : byT Tryd.prog 1 = some 8 := by kernel_rfl
@[simp] theorem f_z1 : zT Tryd.prog 1 = some [.nilFunc] := by kernel_rfl
@[simp] theorem f_sz2 : szT Tryd.prog 2 = some 1 := by kernel_rfl
@[simp] theorem f_ag2 : aggT Tryd.prog 2 = some false := by kernel_rfl
@[simp] theorem f_ib2 : isBoolT Tryd.prog 2 = false := by kernel_rfl
@[simp] theorem f_is2 : isSlT Tryd.prog 2 = false := by kernel_rfl
@[simp] theorem f_by2 : byT Tryd.prog 2 = some 8 := by kernel_rfl
@[simp] theorem f_z2 : zT Tryd.prog 2 = some [.int .i64 0] := by kernel_rfl
@[simp] theorem f_sz3 : szT Tryd.prog 3 = some 1 := by kernel_rfl
@[simp] theorem f_ag3 : aggT Tryd.prog 3 = some false := by kernel_rfl
@[simp] theorem f_ib3 : isBoolT Tryd.prog 3 = false := by kernel_rfl
@[simp] theorem f_is3 : isSlT Tryd.prog 3 = false := by kernel_rfl
@[simp] theorem f_by3 : byT Tryd.prog 3 = some 8 := by kernel_rfl
@[simp] theorem f_z3 : zT Tryd.prog 3 = some [.int .i64 0] := by kernel_rfl
@[simp] theorem f_sz4 : szT Tryd.prog 4 = some 1 := by kernel_rfl
@[simp] theorem f_ag4 : aggT Tryd.prog 4 = some false := by kernel_rfl
@[simp] theorem f_ib4 : isBoolT Tryd.prog 4 = true := by kernel_rfl
@[simp] theorem f_is4 : isSlT Tryd.prog 4 = false := by kernel_rfl
@[simp] theorem f_by4 : byT Tryd.prog 4 = some 1 := by kernel_rfl
@[simp] theorem f_z4 : zT Tryd.prog 4 = some [.bool false] := by kernel_rfl
@[simp] theorem f_sz5 : szT Tryd.prog 5 = some 1 := by kernel_rfl
@[simp] theorem f_ag5 : aggT Tryd.prog 5 = some false := by kernel_rfl
@[simp] theorem f_ib5 : isBoolT Tryd.prog 5 = false := by kernel_rfl
@[simp] theorem f_is5 : isSlT Tryd.prog 5 = false := by kernel_rfl
@[simp] theorem f_by5 : byT Tryd.prog 5 = some 1 := by kernel_rfl
@[simp] theorem f_z5 : zT Tryd.prog 5 = some [.int .u8 0] := by kernel_rfl
@[simp] theorem f_sz6 : szT Tryd.prog 6 = some 1 := by kernel_rfl
@[simp] theorem f_ag6 : aggT Tryd.prog 6 = some false := by kernel_rfl
@[simp] theorem f_ib6 : isBoolT Tryd.prog 6 = false := by kernel_rfl
@[simp] theorem f_is6 : isSlT Tryd.prog 6 = false := by kernel_rfl
@[simp] theorem f_by6 : byT Tryd.prog 6 = some 1 := by kernel_rfl
@[simp] theorem f_z6 : zT Tryd.prog 6 = some [.int .u8 0] := by kernel_rfl
@[simp] theorem f_sz7 : szT Tryd.prog 7 = some 4 := by kernel_rfl
@[simp] theorem f_ag7 : aggT Tryd.prog 7 = some true := by kernel_rfl
@[simp] theorem f_ib7 : isBoolT Tryd.prog 7 = false := by kernel_rfl
@[simp] theorem f_is7 : isSlT Tryd.prog 7 = false := by kernel_rfl
@[simp] theorem f_by7 : byT Tryd.prog 7 = some 24 := by kernel_rfl
@[simp] theorem f_z7 : zT Tryd.prog 7 = some [.int .i64 0, .int .i64 0, .bool false, .int .u8 0] := by kernel_rfl
@[simp] theorem f_ok7 : fldsOk Tryd.prog 7 = true := by kernel_rfl
@[simp] theorem f_fld7_0 : fldT Tryd.prog 7 0 = some (0, 1) := by kernel_rfl
@[simp] theorem f_fldA7_0 : fldA Tryd.prog 7 0 = some false := by kernel_rfl
@[simp] theorem f_pl7_0 : placeT Tryd.prog 7 0 = some (0, 1) := by kernel_rfl
@[simp] theorem f_fld7_1 : fldT Tryd.prog 7 1 = some (1, 1) := by kernel_rfl
@[simp] theorem f_fldA7_1 : fldA Tryd.prog 7 1 = some false := by kernel_rfl
@[simp] theorem f_pl7_1 : placeT Tryd.prog 7 1 = some (1, 1) := by kernel_rfl
@[simp] theorem f_fld7_2 : fldT Tryd.prog 7 2 = some (2, 1) := by kernel_rfl
@[simp] theorem f_fldA7_2 : fldA Tryd.prog 7 2 = some false := by kernel_rfl
@[simp] theorem f_pl7_2 : placeT Tryd.prog 7 2 = some (2, 1) := by kernel_rfl
@[simp] theorem f_fld7_3 : fldT Tryd.prog 7 3 = some (3, 1) := by kernel_rfl
@[simp] theorem f_fldA7_3 : fldA Tryd.prog 7 3 = some false := by kernel_rfl
@[simp] theorem f_pl7_3 : placeT Tryd.prog 7 3 = some (3, 1) := by kernel_rfl
@[simp] theorem f_sz8 : szT Tryd.prog 8 = some 4 := by kernel_rfl
@[simp] theorem f_ag8 : aggT Tryd.prog 8 = some true := by kernel_rfl
@[simp] theorem f_ib8 : isBoolT Tryd.prog 8 = false := by kernel_rfl
@[simp] theorem f_is8 : isSlT Tryd.prog 8 = false := by kernel_rfl
@[simp] theorem f_by8 : byT Tryd.prog 8 = some 24 := by kernel_rfl
@[simp] theorem f_z8 : zT Tryd.prog 8 = some [.int .i64 0, .int .i64 0, .bool false, .int .u8 0] := by kernel_rfl
@[simp] theorem f_ok8 : fldsOk Tryd.prog 8 = true := by kernel_rfl
@[simp] theorem f_fld8_0 : fldT Tryd.prog 8 0 = some (0, 1) := by kernel_rfl
@[simp] theorem f_fldA8_0 : fldA Tryd.prog 8 0 = some false := by kernel_rfl
@[simp] theorem f_pl8_0 : placeT Tryd.prog 8 0 = some (0, 1) := by kernel_rfl
@[simp] theorem f_fld8_1 : fldT Tryd.prog 8 1 = some (1, 1) := by kernel_rfl
@[simp] theorem f_fldA8_1 : fldA Tryd.prog 8 1 = some false := by kernel_rfl
@[simp] theorem f_pl8_1 : placeT Tryd.prog 8 1 = some (1, 1) := by kernel_rfl
@[simp] theorem f_fld8_2 : fldT Tryd.prog 8 2 = some (2, 1) := by kernel_rfl
@[simp] theorem f_fldA8_2 : fldA Tryd.prog 8 2 = some false := by kernel_rfl
@[simp] theorem f_pl8_2 : placeT Tryd.prog 8 2 = some (2, 1) := by kernel_rfl
@[simp] theorem f_fld8_3 : fldT Tryd.prog 8 3 = some (3, 1) := by kernel_rfl
@[simp] theorem f_fldA8_3 : fldA Tryd.prog 8 3 = some false := by kernel_rfl
@[simp] theorem f_pl8_3 : placeT Tryd.prog 8 3 = some (3, 1) := by kernel_rfl
@[simp] theorem f_sz9 : szT Tryd.prog 9 = some 1 := by kernel_rfl
@[simp] theorem f_ag9 : aggT Tryd.prog 9 = some false := by kernel_rfl
@[simp] theorem f_ib9 : isBoolT Tryd.prog 9 = false := by kernel_rfl
@[simp] theorem f_st9 : isStrT Tryd.prog 9 = true := by kernel_rfl
@[simp] theorem f_is9 : isSlT Tryd.prog 9 = false := by kernel_rfl
@[simp] theorem f_by9 : byT Tryd.prog 9 = some 16 := by kernel_rfl
@[simp] theorem f_z9 : zT Tryd.prog 9 = some [.string ByteArray.empty] := by kernel_rfl
@[simp] theorem f_sz10 : szT Tryd.prog 10 = some 1 := by kernel_rfl
@[simp] theorem f_ag10 : aggT Tryd.prog 10 = some false := by kernel_rfl
@[simp] theorem f_ib10 : isBoolT Tryd.prog 10 = false := by kernel_rfl
@[simp] theorem f_st10 : isStrT Tryd.prog 10 = true := by kernel_rfl
@[simp] theorem f_is10 : isSlT Tryd.prog 10 = false := by kernel_rfl
@[simp] theorem f_by10 : byT Tryd.prog 10 = some 16 := by kernel_rfl
@[simp] theorem f_z10 : zT Tryd.prog 10 = some [.string ByteArray.empty] := by kernel_rfl
@[simp] theorem f_sz11 : szT Tryd.prog 11 = some 1 := by kernel_rfl
@[simp] theorem f_ag11 : aggT Tryd.prog 11 = some false := by kernel_rfl
@[simp] theorem f_ib11 : isBoolT Tryd.prog 11 = false := by kernel_rfl
@[simp] theorem f_st11 : isStrT Tryd.prog 11 = true := by kernel_rfl
@[simp] theorem f_is11 : isSlT Tryd.prog 11 = false := by kernel_rfl
@[simp] theorem f_by11 : byT Tryd.prog 11 = some 16 := by kernel_rfl
@[simp] theorem f_z11 : zT Tryd.prog 11 = some [.string ByteArray.empty] := by kernel_rfl
@[simp] theorem f_sz12 : szT Tryd.prog 12 = some 1 := by kernel_rfl
@[simp] theorem f_ag12 : aggT Tryd.prog 12 = some false := by kernel_rfl
@[simp] theorem f_ib12 : isBoolT Tryd.prog 12 = false := by kernel_rfl
@[simp] theorem f_is12 : isSlT Tryd.prog 12 = false := by kernel_rfl
@[simp] theorem f_by12 : byT Tryd.prog 12 = some 8 := by kernel_rfl
@[simp] theorem f_z12 : zT Tryd.prog 12 = some [.int .u64 0] := by kernel_rfl
@[simp] theorem f_sz13 : szT Tryd.prog 13 = some 2 := by kernel_rfl
@[simp] theorem f_ag13 : aggT Tryd.prog 13 = some true := by kernel_rfl
@[simp] theorem f_ib13 : isBoolT Tryd.prog 13 = false := by kernel_rfl
@[simp] theorem f_is13 : isSlT Tryd.prog 13 = false := by kernel_rfl
@[simp] theorem f_by13 : byT Tryd.prog 13 = some 24 := by kernel_rfl
@[simp] theorem f_z13 : zT Tryd.prog 13 = some [.string ByteArray.empty, .int .u64 0] := by kernel_rfl
@[simp] theorem f_ok13 : fldsOk Tryd.prog 13 = true := by kernel_rfl
@[simp] theorem f_fld13_0 : fldT Tryd.prog 13 0 = some (0, 1) := by kernel_rfl
@[simp] theorem f_fldA13_0 : fldA Tryd.prog 13 0 = some false := by kernel_rfl
@[simp] theorem f_pl13_0 : placeT Tryd.prog 13 0 = some (0, 1) := by kernel_rfl
@[simp] theorem f_fld13_1 : fldT Tryd.prog 13 1 = some (1, 1) := by kernel_rfl
@[simp] theorem f_fldA13_1 : fldA Tryd.prog 13 1 = some false := by kernel_rfl
@[simp] theorem f_pl13_1 : placeT Tryd.prog 13 1 = some (1, 1) := by kernel_rfl
@[simp] theorem f_sz14 : szT Tryd.prog 14 = some 2 := by kernel_rfl
@[simp] theorem f_ag14 : aggT Tryd.prog 14 = some true := by kernel_rfl
@[simp] theorem f_ib14 : isBoolT Tryd.prog 14 = false := by kernel_rfl
@[simp] theorem f_is14 : isSlT Tryd.prog 14 = false := by kernel_rfl
@[simp] theorem f_by14 : byT Tryd.prog 14 = some 24 := by kernel_rfl
@[simp] theorem f_z14 : zT Tryd.prog 14 = some [.string ByteArray.empty, .int .u64 0] := by kernel_rfl
@[simp] theorem f_ok14 : fldsOk Tryd.prog 14 = true := by kernel_rfl
@[simp] theorem f_fld14_0 : fldT Tryd.prog 14 0 = some (0, 1) := by kernel_rfl
@[simp] theorem f_fldA14_0 : fldA Tryd.prog 14 0 = some false := by kernel_rfl
@[simp] theorem f_pl14_0 : placeT Tryd.prog 14 0 = some (0, 1) := by kernel_rfl
@[simp] theorem f_fld14_1 : fldT Tryd.prog 14 1 = some (1, 1) := by kernel_rfl
@[simp] theorem f_fldA14_1 : fldA Tryd.prog 14 1 = some false := by kernel_rfl
@[simp] theorem f_pl14_1 : placeT Tryd.prog 14 1 = some (1, 1) := by kernel_rfl
@[simp] theorem f_sz15 : szT Tryd.prog 15 = some 1 := by kernel_rfl
@[simp] theorem f_ag15 : aggT Tryd.prog 15 = some false := by kernel_rfl
@[simp] theorem f_ib15 : isBoolT Tryd.prog 15 = false := by kernel_rfl
@[simp] theorem f_is15 : isSlT Tryd.prog 15 = false := by kernel_rfl
@[simp] theorem f_by15 : byT Tryd.prog 15 = some 8 := by kernel_rfl
@[simp] theorem f_z15 : zT Tryd.prog 15 = some [.pointer none] := by kernel_rfl
@[simp] theorem f_sz16 : szT Tryd.prog 16 = some 1 := by kernel_rfl
@[simp] theorem f_ag16 : aggT Tryd.prog 16 = some false := by kernel_rfl
@[simp] theorem f_ib16 : isBoolT Tryd.prog 16 = false := by kernel_rfl
@[simp] theorem f_is16 : isSlT Tryd.prog 16 = false := by kernel_rfl
@[simp] theorem f_by16 : byT Tryd.prog 16 = some 8 := by kernel_rfl
@[simp] theorem f_z16 : zT Tryd.prog 16 = some [.pointer none] := by kernel_rfl
@[simp] theorem f_sz17 : szT Tryd.prog 17 = some 1 := by kernel_rfl
@[simp] theorem f_ag17 : aggT Tryd.prog 17 = some false := by kernel_rfl
@[simp] theorem f_ib17 : isBoolT Tryd.prog 17 = false := by kernel_rfl
@[simp] theorem f_is17 : isSlT Tryd.prog 17 = false := by kernel_rfl
@[simp] theorem f_by17 : byT Tryd.prog 17 = some 8 := by kernel_rfl
@[simp] theorem f_z17 : zT Tryd.prog 17 = some [.pointer none] := by kernel_rfl
@[simp] theorem f_sz18 : szT Tryd.prog 18 = some 1 := by kernel_rfl
@[simp] theorem f_ag18 : aggT Tryd.prog 18 = some true := by kernel_rfl
@[simp] theorem f_ib18 : isBoolT Tryd.prog 18 = false := by kernel_rfl
@[simp] theorem f_is18 : isSlT Tryd.prog 18 = false := by kernel_rfl
@[simp] theorem f_by18 : byT Tryd.prog 18 = some 8 := by kernel_rfl
@[simp] theorem f_z18 : zT Tryd.prog 18 = some [.pointer none] := by kernel_rfl
@[simp] theorem f_ok18 : fldsOk Tryd.prog 18 = true := by kernel_rfl
@[simp] theorem f_fld18_0 : fldT Tryd.prog 18 0 = some (0, 1) := by kernel_rfl
@[simp] theorem f_fldA18_0 : fldA Tryd.prog 18 0 = some false := by kernel_rfl
@[simp] theorem f_pl18_0 : placeT Tryd.prog 18 0 = some (0, 1) := by kernel_rfl
@[simp] theorem f_sz19 : szT Tryd.prog 19 = some 1 := by kernel_rfl
@[simp] theorem f_ag19 : aggT Tryd.prog 19 = some true := by kernel_rfl
@[simp] theorem f_ib19 : isBoolT Tryd.prog 19 = false := by kernel_rfl
@[simp] theorem f_is19 : isSlT Tryd.prog 19 = false := by kernel_rfl
@[simp] theorem f_by19 : byT Tryd.prog 19 = some 8 := by kernel_rfl
@[simp] theorem f_z19 : zT Tryd.prog 19 = some [.pointer none] := by kernel_rfl
@[simp] theorem f_ok19 : fldsOk Tryd.prog 19 = true := by kernel_rfl
@[simp] theorem f_fld19_0 : fldT Tryd.prog 19 0 = some (0, 1) := by kernel_rfl
@[simp] theorem f_fldA19_0 : fldA Tryd.prog 19 0 = some false := by kernel_rfl
@[simp] theorem f_pl19_0 : placeT Tryd.prog 19 0 = some (0, 1) := by kernel_rfl
@[simp] theorem f_sz21 : szT Tryd.prog 21 = some 1 := by kernel_rfl
@[simp] theorem f_ag21 : aggT Tryd.prog 21 = some false := by kernel_rfl
@[simp] theorem f_ib21 : isBoolT Tryd.prog 21 = false := by kernel_rfl
@[simp] theorem f_is21 : isSlT Tryd.prog 21 = false := by kernel_rfl
@[simp] theorem f_by21 : byT Tryd.prog 21 = some 4 := by kernel_rfl
@[simp] theorem f_z21 : zT Tryd.prog 21 = some [.int .i32 0] := by kernel_rfl
@[simp] theorem f_sz22 : szT Tryd.prog 22 = some 1 := by kernel_rfl
@[simp] theorem f_ag22 : aggT Tryd.prog 22 = some false := by kernel_rfl
@[simp] theorem f_ib22 : isBoolT Tryd.prog 22 = false := by kernel_rfl
@[simp] theorem f_is22 : isSlT Tryd.prog 22 = true := by kernel_rfl
@[simp] theorem f_by22 : byT Tryd.prog 22 = some 24 := by kernel_rfl
@[simp] theorem f_z22 : zT Tryd.prog 22 = some [.slice none 0 0] := by kernel_rfl
@[simp] theorem f_sl22 : slT Tryd.prog 22 = some 4 := by kernel_rfl
@[simp] theorem f_el22 : elT Tryd.prog 22 = some 24 := by kernel_rfl
@[simp] theorem f_sz23 : szT Tryd.prog 23 = some 4 := by kernel_rfl
@[simp] theorem f_ag23 : aggT Tryd.prog 23 = some true := by kernel_rfl
@[simp] theorem f_ib23 : isBoolT Tryd.prog 23 = false := by kernel_rfl
@[simp] theorem f_is23 : isSlT Tryd.prog 23 = false := by kernel_rfl
@[simp] theorem f_by23 : byT Tryd.prog 23 = some 56 := by kernel_rfl
@[simp] theorem f_z23 : zT Tryd.prog 23 = some [.string ByteArray.empty, .int .i64 0, .int .i64 0, .slice none 0 0] := by kernel_rfl
@[simp] theorem f_ok23 : fldsOk Tryd.prog 23 = true := by kernel_rfl
@[simp] theorem f_fld23_0 : fldT Tryd.prog 23 0 = some (0, 1) := by kernel_rfl
@[simp] theorem f_fldA23_0 : fldA Tryd.prog 23 0 = some false := by kernel_rfl
@[simp] theorem f_pl23_0 : placeT Tryd.prog 23 0 = some (0, 1) := by kernel_rfl
@[simp] theorem f_fld23_1 : fldT Tryd.prog 23 1 = some (1, 1) := by kernel_rfl
@[simp] theorem f_fldA23_1 : fldA Tryd.prog 23 1 = some false := by kernel_rfl
@[simp] theorem f_pl23_1 : placeT Tryd.prog 23 1 = some (1, 1) := by kernel_rfl
@[simp] theorem f_fld23_2 : fldT Tryd.prog 23 2 = some (2, 1) := by kernel_rfl
@[simp] theorem f_fldA23_2 : fldA Tryd.prog 23 2 = some false := by kernel_rfl
@[simp] theorem f_pl23_2 : placeT Tryd.prog 23 2 = some (2, 1) := by kernel_rfl
@[simp] theorem f_fld23_3 : fldT Tryd.prog 23 3 = some (3, 1) := by kernel_rfl
@[simp] theorem f_fldA23_3 : fldA Tryd.prog 23 3 = some false := by kernel_rfl
@[simp] theorem f_pl23_3 : placeT Tryd.prog 23 3 = some (3, 1) := by kernel_rfl
@[simp] theorem f_sz24 : szT Tryd.prog 24 = some 4 := by kernel_rfl
@[simp] theorem f_ag24 : aggT Tryd.prog 24 = some true := by kernel_rfl
@[simp] theorem f_ib24 : isBoolT Tryd.prog 24 = false := by kernel_rfl
@[simp] theorem f_is24 : isSlT Tryd.prog 24 = false := by kernel_rfl
@[simp] theorem f_by24 : byT Tryd.prog 24 = some 56 := by kernel_rfl
@[simp] theorem f_z24 : zT Tryd.prog 24 = some [.string ByteArray.empty, .int .i64 0, .int .i64 0, .slice none 0 0] := by kernel_rfl
@[simp] theorem f_ok24 : fldsOk Tryd.prog 24 = true := by kernel_rfl
@[simp] theorem f_fld24_0 : fldT Tryd.prog 24 0 = some (0, 1) := by kernel_rfl
@[simp] theorem f_fldA24_0 : fldA Tryd.prog 24 0 = some false := by kernel_rfl
@[simp] theorem f_pl24_0 : placeT Tryd.prog 24 0 = some (0, 1) := by kernel_rfl
@[simp] theorem f_fld24_1 : fldT Tryd.prog 24 1 = some (1, 1) := by kernel_rfl
@[simp] theorem f_fldA24_1 : fldA Tryd.prog 24 1 = some false := by kernel_rfl
@[simp] theorem f_pl24_1 : placeT Tryd.prog 24 1 = some (1, 1) := by kernel_rfl
@[simp] theorem f_fld24_2 : fldT Tryd.prog 24 2 = some (2, 1) := by kernel_rfl
@[simp] theorem f_fldA24_2 : fldA Tryd.prog 24 2 = some false := by kernel_rfl
@[simp] theorem f_pl24_2 : placeT Tryd.prog 24 2 = some (2, 1) := by kernel_rfl
@[simp] theorem f_fld24_3 : fldT Tryd.prog 24 3 = some (3, 1) := by kernel_rfl
@[simp] theorem f_fldA24_3 : fldA Tryd.prog 24 3 = some false := by kernel_rfl
@[simp] theorem f_pl24_3 : placeT Tryd.prog 24 3 = some (3, 1) := by kernel_rfl
@[simp] theorem f_sz25 : szT Tryd.prog 25 = some 1 := by kernel_rfl
@[simp] theorem f_ag25 : aggT Tryd.prog 25 = some false := by kernel_rfl
@[simp] theorem f_ib25 : isBoolT Tryd.prog 25 = false := by kernel_rfl
@[simp] theorem f_is25 : isSlT Tryd.prog 25 = true := by kernel_rfl
@[simp] theorem f_by25 : byT Tryd.prog 25 = some 24 := by kernel_rfl
@[simp] theorem f_z25 : zT Tryd.prog 25 = some [.slice none 0 0] := by kernel_rfl
@[simp] theorem f_sl25 : slT Tryd.prog 25 = some 4 := by kernel_rfl
@[simp] theorem f_el25 : elT Tryd.prog 25 = some 27 := by kernel_rfl
@[simp] theorem f_sz26 : szT Tryd.prog 26 = some 4 := by kernel_rfl
@[simp] theorem f_ag26 : aggT Tryd.prog 26 = some true := by kernel_rfl
@[simp] theorem f_ib26 : isBoolT Tryd.prog 26 = false := by kernel_rfl
@[simp] theorem f_is26 : isSlT Tryd.prog 26 = false := by kernel_rfl
@[simp] theorem f_by26 : byT Tryd.prog 26 = some 56 := by kernel_rfl
@[simp] theorem f_z26 : zT Tryd.prog 26 = some [.string ByteArray.empty, .int .i64 0, .int .i64 0, .slice none 0 0] := by kernel_rfl
@[simp] theorem f_ok26 : fldsOk Tryd.prog 26 = true := by kernel_rfl
@[simp] theorem f_fld26_0 : fldT Tryd.prog 26 0 = some (0, 1) := by kernel_rfl
@[simp] theorem f_fldA26_0 : fldA Tryd.prog 26 0 = some false := by kernel_rfl
@[simp] theorem f_pl26_0 : placeT Tryd.prog 26 0 = some (0, 1) := by kernel_rfl
@[simp] theorem f_fld26_1 : fldT Tryd.prog 26 1 = some (1, 1) := by kernel_rfl
@[simp] theorem f_fldA26_1 : fldA Tryd.prog 26 1 = some false := by kernel_rfl
@[simp] theorem f_pl26_1 : placeT Tryd.prog 26 1 = some (1, 1) := by kernel_rfl
@[simp] theorem f_fld26_2 : fldT Tryd.prog 26 2 = some (2, 1) := by kernel_rfl
@[simp] theorem f_fldA26_2 : fldA Tryd.prog 26 2 = some false := by kernel_rfl
@[simp] theorem f_pl26_2 : placeT Tryd.prog 26 2 = some (2, 1) := by kernel_rfl
@[simp] theorem f_fld26_3 : fldT Tryd.prog 26 3 = some (3, 1) := by kernel_rfl
@[simp] theorem f_fldA26_3 : fldA Tryd.prog 26 3 = some false := by kernel_rfl
@[simp] theorem f_pl26_3 : placeT Tryd.prog 26 3 = some (3, 1) := by kernel_rfl
@[simp] theorem f_sz27 : szT Tryd.prog 27 = some 4 := by kernel_rfl
@[simp] theorem f_ag27 : aggT Tryd.prog 27 = some true := by kernel_rfl
@[simp] theorem f_ib27 : isBoolT Tryd.prog 27 = false := by kernel_rfl
@[simp] theorem f_is27 : isSlT Tryd.prog 27 = false := by kernel_rfl
@[simp] theorem f_by27 : byT Tryd.prog 27 = some 56 := by kernel_rfl
@[simp] theorem f_z27 : zT Tryd.prog 27 = some [.string ByteArray.empty, .int .i64 0, .int .i64 0, .slice none 0 0] := by kernel_rfl
@[simp] theorem f_ok27 : fldsOk Tryd.prog 27 = true := by kernel_rfl
@[simp] theorem f_fld27_0 : fldT Tryd.prog 27 0 = some (0, 1) := by kernel_rfl
@[simp] theorem f_fldA27_0 : fldA Tryd.prog 27 0 = some false := by kernel_rfl
@[simp] theorem f_pl27_0 : placeT Tryd.prog 27 0 = some (0, 1) := by kernel_rfl
@[simp] theorem f_fld27_1 : fldT Tryd.prog 27 1 = some (1, 1) := by kernel_rfl
@[simp] theorem f_fldA27_1 : fldA Tryd.prog 27 1 = some false := by kernel_rfl
@[simp] theorem f_pl27_1 : placeT Tryd.prog 27 1 = some (1, 1) := by kernel_rfl
@[simp] theorem f_fld27_2 : fldT Tryd.prog 27 2 = some (2, 1) := by kernel_rfl
@[simp] theorem f_fldA27_2 : fldA Tryd.prog 27 2 = some false := by kernel_rfl
@[simp] theorem f_pl27_2 : placeT Tryd.prog 27 2 = some (2, 1) := by kernel_rfl
@[simp] theorem f_fld27_3 : fldT Tryd.prog 27 3 = some (3, 1) := by kernel_rfl
@[simp] theorem f_fldA27_3 : fldA Tryd.prog 27 3 = some false := by kernel_rfl
@[simp] theorem f_pl27_3 : placeT Tryd.prog 27 3 = some (3, 1) := by kernel_rfl
@[simp] theorem f_sz29 : szT Tryd.prog 29 = some 1 := by kernel_rfl
@[simp] theorem f_ag29 : aggT Tryd.prog 29 = some false := by kernel_rfl
@[simp] theorem f_ib29 : isBoolT Tryd.prog 29 = false := by kernel_rfl
@[simp] theorem f_is29 : isSlT Tryd.prog 29 = false := by kernel_rfl
@[simp] theorem f_by29 : byT Tryd.prog 29 = some 8 := by kernel_rfl
@[simp] theorem f_z29 : zT Tryd.prog 29 = some [.nilFunc] := by kernel_rfl
@[simp] theorem f_sz30 : szT Tryd.prog 30 = some 1 := by kernel_rfl
@[simp] theorem f_ag30 : aggT Tryd.prog 30 = some false := by kernel_rfl
@[simp] theorem f_ib30 : isBoolT Tryd.prog 30 = false := by kernel_rfl
@[simp] theorem f_is30 : isSlT Tryd.prog 30 = false := by kernel_rfl
@[simp] theorem f_by30 : byT Tryd.prog 30 = some 8 := by kernel_rfl
@[simp] theorem f_z30 : zT Tryd.prog 30 = some [.int .i64 0] := by kernel_rfl
@[simp] theorem f_sz32 : szT Tryd.prog 32 = some 1 := by kernel_rfl
@[simp] theorem f_ag32 : aggT Tryd.prog 32 = some false := by kernel_rfl
@[simp] theorem f_ib32 : isBoolT Tryd.prog 32 = false := by kernel_rfl
@[simp] theorem f_is32 : isSlT Tryd.prog 32 = false := by kernel_rfl
@[simp] theorem f_by32 : byT Tryd.prog 32 = some 8 := by kernel_rfl
@[simp] theorem f_z32 : zT Tryd.prog 32 = some [.nilFunc] := by kernel_rfl
@[simp] theorem f_sz34 : szT Tryd.prog 34 = some 1 := by kernel_rfl
@[simp] theorem f_ag34 : aggT Tryd.prog 34 = some false := by kernel_rfl
@[simp] theorem f_ib34 : isBoolT Tryd.prog 34 = false := by kernel_rfl
@[simp] theorem f_is34 : isSlT Tryd.prog 34 = false := by kernel_rfl
@[simp] theorem f_by34 : byT Tryd.prog 34 = some 8 := by kernel_rfl
@[simp] theorem f_z34 : zT Tryd.prog 34 = some [.nilFunc] := by kernel_rfl
@[simp] theorem f_sz35 : szT Tryd.prog 35 = some 1 := by kernel_rfl
@[simp] theorem f_ag35 : aggT Tryd.prog 35 = some false := by kernel_rfl
@[simp] theorem f_ib35 : isBoolT Tryd.prog 35 = false := by kernel_rfl
@[simp] theorem f_is35 : isSlT Tryd.prog 35 = false := by kernel_rfl
@[simp] theorem f_by35 : byT Tryd.prog 35 = some 8 := by kernel_rfl
@[simp] theorem f_z35 : zT Tryd.prog 35 = some [.nilFunc] := by kernel_rfl
@[simp] theorem f_sz36 : szT Tryd.prog 36 = some 1 := by kernel_rfl
@[simp] theorem f_ag36 : aggT Tryd.prog 36 = some false := by kernel_rfl
@[simp] theorem f_ib36 : isBoolT Tryd.prog 36 = false := by kernel_rfl
@[simp] theorem f_is36 : isSlT Tryd.prog 36 = false := by kernel_rfl
@[simp] theorem f_by36 : byT Tryd.prog 36 = some 8 := by kernel_rfl
@[simp] theorem f_z36 : zT Tryd.prog 36 = some [.nilFunc] := by kernel_rfl
@[simp] theorem f_sz37 : szT Tryd.prog 37 = some 1 := by kernel_rfl
@[simp] theorem f_ag37 : aggT Tryd.prog 37 = some false := by kernel_rfl
@[simp] theorem f_ib37 : isBoolT Tryd.prog 37 = false := by kernel_rfl
@[simp] theorem f_is37 : isSlT Tryd.prog 37 = false := by kernel_rfl
@[simp] theorem f_by37 : byT Tryd.prog 37 = some 8 := by kernel_rfl
@[simp] theorem f_z37 : zT Tryd.prog 37 = some [.nilFunc] := by kernel_rfl
@[simp] theorem f_sz38 : szT Tryd.prog 38 = some 1 := by kernel_rfl
@[simp] theorem f_ag38 : aggT Tryd.prog 38 = some false := by kernel_rfl
@[simp] theorem f_ib38 : isBoolT Tryd.prog 38 = false := by kernel_rfl
@[simp] theorem f_is38 : isSlT Tryd.prog 38 = false := by kernel_rfl
@[simp] theorem f_by38 : byT Tryd.prog 38 = some 8 := by kernel_rfl
@[simp] theorem f_z38 : zT Tryd.prog 38 = some [.nilFunc] := by kernel_rfl
@[simp] theorem f_sz39 : szT Tryd.prog 39 = some 1 := by kernel_rfl
@[simp] theorem f_ag39 : aggT Tryd.prog 39 = some false := by kernel_rfl
@[simp] theorem f_ib39 : isBoolT Tryd.prog 39 = false := by kernel_rfl
@[simp] theorem f_is39 : isSlT Tryd.prog 39 = true := by kernel_rfl
@[simp] theorem f_by39 : byT Tryd.prog 39 = some 24 := by kernel_rfl
@[simp] theorem f_z39 : zT Tryd.prog 39 = some [.slice none 0 0] := by kernel_rfl
@[simp] theorem f_sl39 : slT Tryd.prog 39 = some 1 := by kernel_rfl
@[simp] theorem f_el39 : elT Tryd.prog 39 = some 3 := by kernel_rfl
@[simp] theorem f_sz40 : szT Tryd.prog 40 = some 1 := by kernel_rfl
@[simp] theorem f_ag40 : aggT Tryd.prog 40 = some false := by kernel_rfl
@[simp] theorem f_ib40 : isBoolT Tryd.prog 40 = false := by kernel_rfl
@[simp] theorem f_is40 : isSlT Tryd.prog 40 = true := by kernel_rfl
@[simp] theorem f_by40 : byT Tryd.prog 40 = some 24 := by kernel_rfl
@[simp] theorem f_z40 : zT Tryd.prog 40 = some [.slice none 0 0] := by kernel_rfl
@[simp] theorem f_sl40 : slT Tryd.prog 40 = some 1 := by kernel_rfl
@[simp] theorem f_el40 : elT Tryd.prog 40 = some 3 := by kernel_rfl
@[simp] theorem f_sz42 : szT Tryd.prog 42 = some 1 := by kernel_rfl
@[simp] theorem f_ag42 : aggT Tryd.prog 42 = some false := by kernel_rfl
@[simp] theorem f_ib42 : isBoolT Tryd.prog 42 = false := by kernel_rfl
@[simp] theorem f_is42 : isSlT Tryd.prog 42 = false := by kernel_rfl
@[simp] theorem f_by42 : byT Tryd.prog 42 = some 8 := by kernel_rfl
@[simp] theorem f_z42 : zT Tryd.prog 42 = some [.nilFunc] := by kernel_rfl
@[simp] theorem f_sz43 : szT Tryd.prog 43 = some 1 := by kernel_rfl
@[simp] theorem f_ag43 : aggT Tryd.prog 43 = some false := by kernel_rfl
@[simp] theorem f_ib43 : isBoolT Tryd.prog 43 = false := by kernel_rfl
@[simp] theorem f_is43 : isSlT Tryd.prog 43 = false := by kernel_rfl
@[simp] theorem f_by43 : byT Tryd.prog 43 = some 8 := by kernel_rfl
@[simp] theorem f_z43 : zT Tryd.prog 43 = some [.nilFunc] := by kernel_rfl
@[simp] theorem f_sz44 : szT Tryd.prog 44 = some 1 := by kernel_rfl
@[simp] theorem f_ag44 : aggT Tryd.prog 44 = some false := by kernel_rfl
@[simp] theorem f_ib44 : isBoolT Tryd.prog 44 = false := by kernel_rfl
@[simp] theorem f_is44 : isSlT Tryd.prog 44 = false := by kernel_rfl
@[simp] theorem f_by44 : byT Tryd.prog 44 = some 8 := by kernel_rfl
@[simp] theorem f_z44 : zT Tryd.prog 44 = some [.nilFunc] := by kernel_rfl
@[simp] theorem f_sz45 : szT Tryd.prog 45 = some 1 := by kernel_rfl
@[simp] theorem f_ag45 : aggT Tryd.prog 45 = some false := by kernel_rfl
@[simp] theorem f_ib45 : isBoolT Tryd.prog 45 = false := by kernel_rfl
@[simp] theorem f_is45 : isSlT Tryd.prog 45 = false := by kernel_rfl
@[simp] theorem f_by45 : byT Tryd.prog 45 = some 8 := by kernel_rfl
@[simp] theorem f_z45 : zT Tryd.prog 45 = some [.nilFunc] := by kernel_rfl
@[simp] theorem f_sz46 : szT Tryd.prog 46 = some 1 := by kernel_rfl
@[simp] theorem f_ag46 : aggT Tryd.prog 46 = some false := by kernel_rfl
@[simp] theorem f_ib46 : isBoolT Tryd.prog 46 = false := by kernel_rfl
@[simp] theorem f_is46 : isSlT Tryd.prog 46 = false := by kernel_rfl
@[simp] theorem f_by46 : byT Tryd.prog 46 = some 8 := by kernel_rfl
@[simp] theorem f_z46 : zT Tryd.prog 46 = some [.nilFunc] := by kernel_rfl
@[simp] theorem f_sz48 : szT Tryd.prog 48 = some 1 := by kernel_rfl
@[simp] theorem f_ag48 : aggT Tryd.prog 48 = some false := by kernel_rfl
@[simp] theorem f_ib48 : isBoolT Tryd.prog 48 = false := by kernel_rfl
@[simp] theorem f_is48 : isSlT Tryd.prog 48 = false := by kernel_rfl
@[simp] theorem f_by48 : byT Tryd.prog 48 = some 8 := by kernel_rfl
@[simp] theorem f_z48 : zT Tryd.prog 48 = some [.nilFunc] := by kernel_rfl
@[simp] theorem f_sz50 : szT Tryd.prog 50 = some 1 := by kernel_rfl
@[simp] theorem f_ag50 : aggT Tryd.prog 50 = some false := by kernel_rfl
@[simp] theorem f_ib50 : isBoolT Tryd.prog 50 = false := by kernel_rfl
@[simp] theorem f_is50 : isSlT Tryd.prog 50 = false := by kernel_rfl
@[simp] theorem f_by50 : byT Tryd.prog 50 = some 8 := by kernel_rfl
@[simp] theorem f_z50 : zT Tryd.prog 50 = some [.nilFunc] := by kernel_rfl
@[simp] theorem f_sz51 : szT Tryd.prog 51 = some 1 := by kernel_rfl
@[simp] theorem f_ag51 : aggT Tryd.prog 51 = some false := by kernel_rfl
@[simp] theorem f_ib51 : isBoolT Tryd.prog 51 = false := by kernel_rfl
@[simp] theorem f_is51 : isSlT Tryd.prog 51 = false := by kernel_rfl
@[simp] theorem f_by51 : byT Tryd.prog 51 = some 8 := by kernel_rfl
@[simp] theorem f_z51 : zT Tryd.prog 51 = some [.nilFunc] := by kernel_rfl
@[simp] theorem f_sz52 : szT Tryd.prog 52 = some 1 := by kernel_rfl
@[simp] theorem f_ag52 : aggT Tryd.prog 52 = some false := by kernel_rfl
@[simp] theorem f_ib52 : isBoolT Tryd.prog 52 = false := by kernel_rfl
@[simp] theorem f_is52 : isSlT Tryd.prog 52 = false := by kernel_rfl
@[simp] theorem f_by52 : byT Tryd.prog 52 = some 8 := by kernel_rfl
@[simp] theorem f_z52 : zT Tryd.prog 52 = some [.nilFunc] := by kernel_rfl
@[simp] theorem f_sz53 : szT Tryd.prog 53 = some 1 := by kernel_rfl
@[simp] theorem f_ag53 : aggT Tryd.prog 53 = some false := by kernel_rfl
@[simp] theorem f_ib53 : isBoolT Tryd.prog 53 = false := by kernel_rfl
@[simp] theorem f_is53 : isSlT Tryd.prog 53 = false := by kernel_rfl
@[simp] theorem f_by53 : byT Tryd.prog 53 = some 8 := by kernel_rfl
@[simp] theorem f_z53 : zT Tryd.prog 53 = some [.nilFunc] := by kernel_rfl
@[simp] theorem f_sz54 : szT Tryd.prog 54 = some 1 := by kernel_rfl
@[simp] theorem f_ag54 : aggT Tryd.prog 54 = some false := by kernel_rfl
@[simp] theorem f_ib54 : isBoolT Tryd.prog 54 = false := by kernel_rfl
@[simp] theorem f_is54 : isSlT Tryd.prog 54 = false := by kernel_rfl
@[simp] theorem f_by54 : byT Tryd.prog 54 = some 8 := by kernel_rfl
@[simp] theorem f_z54 : zT Tryd.prog 54 = some [.nilFunc] := by kernel_rfl
@[simp] theorem f_sz55 : szT Tryd.prog 55 = some 1 := by kernel_rfl
@[simp] theorem f_ag55 : aggT Tryd.prog 55 = some false := by kernel_rfl
@[simp] theorem f_ib55 : isBoolT Tryd.prog 55 = false := by kernel_rfl
@[simp] theorem f_is55 : isSlT Tryd.prog 55 = false := by kernel_rfl
@[simp] theorem f_by55 : byT Tryd.prog 55 = some 8 := by kernel_rfl
@[simp] theorem f_z55 : zT Tryd.prog 55 = some [.nilFunc] := by kernel_rfl
@[simp] theorem f_sz56 : szT Tryd.prog 56 = some 1 := by kernel_rfl
@[simp] theorem f_ag56 : aggT Tryd.prog 56 = some false := by kernel_rfl
@[simp] theorem f_ib56 : isBoolT Tryd.prog 56 = false := by kernel_rfl
@[simp] theorem f_is56 : isSlT Tryd.prog 56 = false := by kernel_rfl
@[simp] theorem f_by56 : byT Tryd.prog 56 = some 8 := by kernel_rfl
@[simp] theorem f_z56 : zT Tryd.prog 56 = some [.pointer none] := by kernel_rfl
@[simp] theorem f_sz57 : szT Tryd.prog 57 = some 1 := by kernel_rfl
@[simp] theorem f_ag57 : aggT Tryd.prog 57 = some false := by kernel_rfl
@[simp] theorem f_ib57 : isBoolT Tryd.prog 57 = false := by kernel_rfl
@[simp] theorem f_is57 : isSlT Tryd.prog 57 = false := by kernel_rfl
@[simp] theorem f_by57 : byT Tryd.prog 57 = some 8 := by kernel_rfl
@[simp] theorem f_z57 : zT Tryd.prog 57 = some [.nilFunc] := by kernel_rfl
@[simp] theorem f_sz58 : szT Tryd.prog 58 = some 1 := by kernel_rfl
@[simp] theorem f_ag58 : aggT Tryd.prog 58 = some false := by kernel_rfl
@[simp] theorem f_ib58 : isBoolT Tryd.prog 58 = false := by kernel_rfl
@[simp] theorem f_is58 : isSlT Tryd.prog 58 = false := by kernel_rfl
@[simp] theorem f_by58 : byT Tryd.prog 58 = some 8 := by kernel_rfl
@[simp] theorem f_z58 : zT Tryd.prog 58 = some [.nilFunc] := by kernel_rfl
@[simp] theorem f_sz59 : szT Tryd.prog 59 = some 1 := by kernel_rfl
@[simp] theorem f_ag59 : aggT Tryd.prog 59 = some false := by kernel_rfl
@[simp] theorem f_ib59 : isBoolT Tryd.prog 59 = false := by kernel_rfl
@[simp] theorem f_is59 : isSlT Tryd.prog 59 = false := by kernel_rfl
@[simp] theorem f_by59 : byT Tryd.prog 59 = some 8 := by kernel_rfl
@[simp] theorem f_z59 : zT Tryd.prog 59 = some [.nilFunc] := by kernel_rfl
@[simp] theorem f_sz60 : szT Tryd.prog 60 = some 1 := by kernel_rfl
@[simp] theorem f_ag60 : aggT Tryd.prog 60 = some false := by kernel_rfl
@[simp] theorem f_ib60 : isBoolT Tryd.prog 60 = false := by kernel_rfl
@[simp] theorem f_is60 : isSlT Tryd.prog 60 = false := by kernel_rfl
@[simp] theorem f_by60 : byT Tryd.prog 60 = some 8 := by kernel_rfl
@[simp] theorem f_z60 : zT Tryd.prog 60 = some [.nilFunc] := by kernel_rfl
@[simp] theorem f_sz61 : szT Tryd.prog 61 = some 1 := by kernel_rfl
@[simp] theorem f_ag61 : aggT Tryd.prog 61 = some false := by kernel_rfl
@[simp] theorem f_ib61 : isBoolT Tryd.prog 61 = false := by kernel_rfl
@[simp] theorem f_is61 : isSlT Tryd.prog 61 = false := by kernel_rfl
@[simp] theorem f_by61 : byT Tryd.prog 61 = some 8 := by kernel_rfl
@[simp] theorem f_z61 : zT Tryd.prog 61 = some [.nilFunc] := by kernel_rfl
@[simp] theorem f_sz62 : szT Tryd.prog 62 = some 1 := by kernel_rfl
@[simp] theorem f_ag62 : aggT Tryd.prog 62 = some false := by kernel_rfl
@[simp] theorem f_ib62 : isBoolT Tryd.prog 62 = false := by kernel_rfl
@[simp] theorem f_is62 : isSlT Tryd.prog 62 = true := by kernel_rfl
@[simp] theorem f_by62 : byT Tryd.prog 62 = some 24 := by kernel_rfl
@[simp] theorem f_z62 : zT Tryd.prog 62 = some [.slice none 0 0] := by kernel_rfl
@[simp] theorem f_sl62 : slT Tryd.prog 62 = some 1 := by kernel_rfl
@[simp] theorem f_el62 : elT Tryd.prog 62 = some 3 := by kernel_rfl
@[simp] theorem f_sz64 : szT Tryd.prog 64 = some 1 := by kernel_rfl
@[simp] theorem f_ag64 : aggT Tryd.prog 64 = some false := by kernel_rfl
@[simp] theorem f_ib64 : isBoolT Tryd.prog 64 = false := by kernel_rfl
@[simp] theorem f_is64 : isSlT Tryd.prog 64 = false := by kernel_rfl
@[simp] theorem f_by64 : byT Tryd.prog 64 = some 8 := by kernel_rfl
@[simp] theorem f_z64 : zT Tryd.prog 64 = some [.nilFunc] := by kernel_rfl
@[simp] theorem f_sz65 : szT Tryd.prog 65 = some 1 := by kernel_rfl
@[simp] theorem f_ag65 : aggT Tryd.prog 65 = some false := by kernel_rfl
@[simp] theorem f_ib65 : isBoolT Tryd.prog 65 = false := by kernel_rfl
@[simp] theorem f_is65 : isSlT Tryd.prog 65 = false := by kernel_rfl
@[simp] theorem f_by65 : byT Tryd.prog 65 = some 8 := by kernel_rfl
@[simp] theorem f_z65 : zT Tryd.prog 65 = some [.nilFunc] := by kernel_rfl
@[simp] theorem f_sz66 : szT Tryd.prog 66 = some 1 := by kernel_rfl
@[simp] theorem f_ag66 : aggT Tryd.prog 66 = some false := by kernel_rfl
@[simp] theorem f_ib66 : isBoolT Tryd.prog 66 = false := by kernel_rfl
@[simp] theorem f_is66 : isSlT Tryd.prog 66 = true := by kernel_rfl
@[simp] theorem f_by66 : byT Tryd.prog 66 = some 24 := by kernel_rfl
@[simp] theorem f_z66 : zT Tryd.prog 66 = some [.slice none 0 0] := by kernel_rfl
@[simp] theorem f_sl66 : slT Tryd.prog 66 = some 1 := by kernel_rfl
@[simp] theorem f_el66 : elT Tryd.prog 66 = some 4 := by kernel_rfl
@[simp] theorem f_sz67 : szT Tryd.prog 67 = some 1 := by kernel_rfl
@[simp] theorem f_ag67 : aggT Tryd.prog 67 = some false := by kernel_rfl
@[simp] theorem f_ib67 : isBoolT Tryd.prog 67 = false := by kernel_rfl
@[simp] theorem f_is67 : isSlT Tryd.prog 67 = true := by kernel_rfl
@[simp] theorem f_by67 : byT Tryd.prog 67 = some 24 := by kernel_rfl
@[simp] theorem f_z67 : zT Tryd.prog 67 = some [.slice none 0 0] := by kernel_rfl
@[simp] theorem f_sl67 : slT Tryd.prog 67 = some 1 := by kernel_rfl
@[simp] theorem f_el67 : elT Tryd.prog 67 = some 4 := by kernel_rfl
@[simp] theorem f_sz68 : szT Tryd.prog 68 = some 1 := by kernel_rfl
@[simp] theorem f_ag68 : aggT Tryd.prog 68 = some false := by kernel_rfl
@[simp] theorem f_ib68 : isBoolT Tryd.prog 68 = false := by kernel_rfl
@[simp] theorem f_is68 : isSlT Tryd.prog 68 = false := by kernel_rfl
@[simp] theorem f_by68 : byT Tryd.prog 68 = some 8 := by kernel_rfl
@[simp] theorem f_z68 : zT Tryd.prog 68 = some [.nilFunc] := by kernel_rfl
@[simp] theorem f_sz69 : szT Tryd.prog 69 = some 1 := by kernel_rfl
@[simp] theorem f_ag69 : aggT Tryd.prog 69 = some false := by kernel_rfl
@[simp] theorem f_ib69 : isBoolT Tryd.prog 69 = false := by kernel_rfl
@[simp] theorem f_is69 : isSlT Tryd.prog 69 = false := by kernel_rfl
@[simp] theorem f_by69 : byT Tryd.prog 69 = some 8 := by kernel_rfl
@[simp] theorem f_z69 : zT Tryd.prog 69 = some [.nilFunc] := by kernel_rfl
@[simp] theorem f_sz70 : szT Tryd.prog 70 = some 1 := by kernel_rfl
@[simp] theorem f_ag70 : aggT Tryd.prog 70 = some false := by kernel_rfl
@[simp] theorem f_ib70 : isBoolT Tryd.prog 70 = false := by kernel_rfl
@[simp] theorem f_is70 : isSlT Tryd.prog 70 = false := by kernel_rfl
@[simp] theorem f_by70 : byT Tryd.prog 70 = some 8 := by kernel_rfl
@[simp] theorem f_z70 : zT Tryd.prog 70 = some [.nilFunc] := by kernel_rfl
@[simp] theorem f_sz72 : szT Tryd.prog 72 = some 1 := by kernel_rfl
@[simp] theorem f_ag72 : aggT Tryd.prog 72 = some false := by kernel_rfl
@[simp] theorem f_ib72 : isBoolT Tryd.prog 72 = false := by kernel_rfl
@[simp] theorem f_is72 : isSlT Tryd.prog 72 = false := by kernel_rfl
@[simp] theorem f_by72 : byT Tryd.prog 72 = some 8 := by kernel_rfl
@[simp] theorem f_z72 : zT Tryd.prog 72 = some [.nilFunc] := by kernel_rfl
@[simp] theorem f_sz74 : szT Tryd.prog 74 = some 1 := by kernel_rfl
@[simp] theorem f_ag74 : aggT Tryd.prog 74 = some false := by kernel_rfl
@[simp] theorem f_ib74 : isBoolT Tryd.prog 74 = false := by kernel_rfl
@[simp] theorem f_is74 : isSlT Tryd.prog 74 = false := by kernel_rfl
@[simp] theorem f_by74 : byT Tryd.prog 74 = some 8 := by kernel_rfl
@[simp] theorem f_z74 : zT Tryd.prog 74 = some [.nilFunc] := by kernel_rfl
@[simp] theorem f_sz75 : szT Tryd.prog 75 = some 1 := by kernel_rfl
@[simp] theorem f_ag75 : aggT Tryd.prog 75 = some false := by kernel_rfl
@[simp] theorem f_ib75 : isBoolT Tryd.prog 75 = false := by kernel_rfl
@[simp] theorem f_is75 : isSlT Tryd.prog 75 = false := by kernel_rfl
@[simp] theorem f_by75 : byT Tryd.prog 75 = some 8 := by kernel_rfl
@[simp] theorem f_z75 : zT Tryd.prog 75 = some [.nilFunc] := by kernel_rfl
@[simp] theorem f_sz76 : szT Tryd.prog 76 = some 1 := by kernel_rfl
@[simp] theorem f_ag76 : aggT Tryd.prog 76 = some false := by kernel_rfl
@[simp] theorem f_ib76 : isBoolT Tryd.prog 76 = false := by kernel_rfl
@[simp] theorem f_is76 : isSlT Tryd.prog 76 = false := by kernel_rfl
@[simp] theorem f_by76 : byT Tryd.prog 76 = some 8 := by kernel_rfl
@[simp] theorem f_z76 : zT Tryd.prog 76 = some [.nilFunc] := by kernel_rfl
@[simp] theorem f_sz77 : szT Tryd.prog 77 = some 1 := by kernel_rfl
@[simp] theorem f_ag77 : aggT Tryd.prog 77 = some false := by kernel_rfl
@[simp] theorem f_ib77 : isBoolT Tryd.prog 77 = false := by kernel_rfl
@[simp] theorem f_is77 : isSlT Tryd.prog 77 = false := by kernel_rfl
@[simp] theorem f_by77 : byT Tryd.prog 77 = some 8 := by kernel_rfl
@[simp] theorem f_z77 : zT Tryd.prog 77 = some [.nilFunc] := by kernel_rfl
@[simp] theorem f_sz78 : szT Tryd.prog 78 = some 1 := by kernel_rfl
@[simp] theorem f_ag78 : aggT Tryd.prog 78 = some false := by kernel_rfl
@[simp] theorem f_ib78 : isBoolT Tryd.prog 78 = false := by kernel_rfl
@[simp] theorem f_is78 : isSlT Tryd.prog 78 = false := by kernel_rfl
@[simp] theorem f_by78 : byT Tryd.prog 78 = some 8 := by kernel_rfl
@[simp] theorem f_z78 : zT Tryd.prog 78 = some [.pointer none] := by kernel_rfl
@[simp] theorem f_sz79 : szT Tryd.prog 79 = some 1 := by kernel_rfl
@[simp] theorem f_ag79 : aggT Tryd.prog 79 = some false := by kernel_rfl
@[simp] theorem f_ib79 : isBoolT Tryd.prog 79 = false := by kernel_rfl
@[simp] theorem f_is79 : isSlT Tryd.prog 79 = true := by kernel_rfl
@[simp] theorem f_by79 : byT Tryd.prog 79 = some 24 := by kernel_rfl
@[simp] theorem f_z79 : zT Tryd.prog 79 = some [.slice none 0 0] := by kernel_rfl
@[simp] theorem f_sl79 : slT Tryd.prog 79 = some 1 := by kernel_rfl
@[simp] theorem f_el79 : elT Tryd.prog 79 = some 5 := by kernel_rfl
@[simp] theorem f_sz80 : szT Tryd.prog 80 = some 2 := by kernel_rfl
@[simp] theorem f_ag80 : aggT Tryd.prog 80 = some true := by kernel_rfl
@[simp] theorem f_ib80 : isBoolT Tryd.prog 80 = false := by kernel_rfl
@[simp] theorem f_is80 : isSlT Tryd.prog 80 = false := by kernel_rfl
@[simp] theorem f_by80 : byT Tryd.prog 80 = some 32 := by kernel_rfl
@[simp] theorem f_z80 : zT Tryd.prog 80 = some [.pointer none, .slice none 0 0] := by kernel_rfl
@[simp] theorem f_ok80 : fldsOk Tryd.prog 80 = true := by kernel_rfl
@[simp] theorem f_fld80_0 : fldT Tryd.prog 80 0 = some (0, 1) := by kernel_rfl
@[simp] theorem f_fldA80_0 : fldA Tryd.prog 80 0 = some false := by kernel_rfl
@[simp] theorem f_pl80_0 : placeT Tryd.prog 80 0 = some (0, 1) := by kernel_rfl
@[simp] theorem f_fld80_1 : fldT Tryd.prog 80 1 = some (1, 1) := by kernel_rfl
@[simp] theorem f_fldA80_1 : fldA Tryd.prog 80 1 = some false := by kernel_rfl
@[simp] theorem f_pl80_1 : placeT Tryd.prog 80 1 = some (1, 1) := by kernel_rfl
@[simp] theorem f_sz81 : szT Tryd.prog 81 = some 2 := by kernel_rfl
@[simp] theorem f_ag81 : aggT Tryd.prog 81 = some true := by kernel_rfl
@[simp] theorem f_ib81 : isBoolT Tryd.prog 81 = false := by kernel_rfl
@[simp] theorem f_is81 : isSlT Tryd.prog 81 = false := by kernel_rfl
@[simp] theorem f_by81 : byT Tryd.prog 81 = some 32 := by kernel_rfl
@[simp] theorem f_z81 : zT Tryd.prog 81 = some [.pointer none, .slice none 0 0] := by kernel_rfl
@[simp] theorem f_ok81 : fldsOk Tryd.prog 81 = true := by kernel_rfl
@[simp] theorem f_fld81_0 : fldT Tryd.prog 81 0 = some (0, 1) := by kernel_rfl
@[simp] theorem f_fldA81_0 : fldA Tryd.prog 81 0 = some false := by kernel_rfl
@[simp] theorem f_pl81_0 : placeT Tryd.prog 81 0 = some (0, 1) := by kernel_rfl
@[simp] theorem f_fld81_1 : fldT Tryd.prog 81 1 = some (1, 1) := by kernel_rfl
@[simp] theorem f_fldA81_1 : fldA Tryd.prog 81 1 = some false := by kernel_rfl
@[simp] theorem f_pl81_1 : placeT Tryd.prog 81 1 = some (1, 1) := by kernel_rfl
@[simp] theorem f_sz82 : szT Tryd.prog 82 = some 1 := by kernel_rfl
@[simp] theorem f_ag82 : aggT Tryd.prog 82 = some false := by kernel_rfl
@[simp] theorem f_ib82 : isBoolT Tryd.prog 82 = false := by kernel_rfl
@[simp] theorem f_is82 : isSlT Tryd.prog 82 = false := by kernel_rfl
@[simp] theorem f_by82 : byT Tryd.prog 82 = some 8 := by kernel_rfl
@[simp] theorem f_z82 : zT Tryd.prog 82 = some [.nilFunc] := by kernel_rfl
@[simp] theorem f_sz83 : szT Tryd.prog 83 = some 1 := by kernel_rfl
@[simp] theorem f_ag83 : aggT Tryd.prog 83 = some false := by kernel_rfl
@[simp] theorem f_ib83 : isBoolT Tryd.prog 83 = false := by kernel_rfl
@[simp] theorem f_is83 : isSlT Tryd.prog 83 = false := by kernel_rfl
@[simp] theorem f_by83 : byT Tryd.prog 83 = some 8 := by kernel_rfl
@[simp] theorem f_z83 : zT Tryd.prog 83 = some [.nilFunc] := by kernel_rfl
@[simp] theorem f_sz84 : szT Tryd.prog 84 = some 1 := by kernel_rfl
@[simp] theorem f_ag84 : aggT Tryd.prog 84 = some false := by kernel_rfl
@[simp] theorem f_ib84 : isBoolT Tryd.prog 84 = false := by kernel_rfl
@[simp] theorem f_is84 : isSlT Tryd.prog 84 = false := by kernel_rfl
@[simp] theorem f_by84 : byT Tryd.prog 84 = some 8 := by kernel_rfl
@[simp] theorem f_z84 : zT Tryd.prog 84 = some [.nilFunc] := by kernel_rfl
@[simp] theorem f_sz86 : szT Tryd.prog 86 = some 1 := by kernel_rfl
@[simp] theorem f_ag86 : aggT Tryd.prog 86 = some false := by kernel_rfl
@[simp] theorem f_ib86 : isBoolT Tryd.prog 86 = false := by kernel_rfl
@[simp] theorem f_is86 : isSlT Tryd.prog 86 = false := by kernel_rfl
@[simp] theorem f_by86 : byT Tryd.prog 86 = some 8 := by kernel_rfl
@[simp] theorem f_z86 : zT Tryd.prog 86 = some [.nilFunc] := by kernel_rfl
@[simp] theorem f_sz88 : szT Tryd.prog 88 = some 1 := by kernel_rfl
@[simp] theorem f_ag88 : aggT Tryd.prog 88 = some false := by kernel_rfl
@[simp] theorem f_ib88 : isBoolT Tryd.prog 88 = false := by kernel_rfl
@[simp] theorem f_is88 : isSlT Tryd.prog 88 = false := by kernel_rfl
@[simp] theorem f_by88 : byT Tryd.prog 88 = some 8 := by kernel_rfl
@[simp] theorem f_z88 : zT Tryd.prog 88 = some [.nilFunc] := by kernel_rfl
@[simp] theorem f_sz89 : szT Tryd.prog 89 = some 1 := by kernel_rfl
@[simp] theorem f_ag89 : aggT Tryd.prog 89 = some false := by kernel_rfl
@[simp] theorem f_ib89 : isBoolT Tryd.prog 89 = false := by kernel_rfl
@[simp] theorem f_is89 : isSlT Tryd.prog 89 = false := by kernel_rfl
@[simp] theorem f_by89 : byT Tryd.prog 89 = some 8 := by kernel_rfl
@[simp] theorem f_z89 : zT Tryd.prog 89 = some [.nilFunc] := by kernel_rfl
@[simp] theorem f_sz90 : szT Tryd.prog 90 = some 1 := by kernel_rfl
@[simp] theorem f_ag90 : aggT Tryd.prog 90 = some false := by kernel_rfl
@[simp] theorem f_ib90 : isBoolT Tryd.prog 90 = false := by kernel_rfl
@[simp] theorem f_is90 : isSlT Tryd.prog 90 = true := by kernel_rfl
@[simp] theorem f_by90 : byT Tryd.prog 90 = some 24 := by kernel_rfl
@[simp] theorem f_z90 : zT Tryd.prog 90 = some [.slice none 0 0] := by kernel_rfl
@[simp] theorem f_sl90 : slT Tryd.prog 90 = some 1 := by kernel_rfl
@[simp] theorem f_el90 : elT Tryd.prog 90 = some 67 := by kernel_rfl
@[simp] theorem f_sz91 : szT Tryd.prog 91 = some 1 := by kernel_rfl
@[simp] theorem f_ag91 : aggT Tryd.prog 91 = some false := by kernel_rfl
@[simp] theorem f_ib91 : isBoolT Tryd.prog 91 = false := by kernel_rfl
@[simp] theorem f_is91 : isSlT Tryd.prog 91 = false := by kernel_rfl
@[simp] theorem f_by91 : byT Tryd.prog 91 = some 8 := by kernel_rfl
@[simp] theorem f_z91 : zT Tryd.prog 91 = some [.nilFunc] := by kernel_rfl
@[simp] theorem f_sz92 : szT Tryd.prog 92 = some 5 := by kernel_rfl
@[simp] theorem f_ag92 : aggT Tryd.prog 92 = some true := by kernel_rfl
@[simp] theorem f_ib92 : isBoolT Tryd.prog 92 = false := by kernel_rfl
@[simp] theorem f_is92 : isSlT Tryd.prog 92 = false := by kernel_rfl
@[simp] theorem f_by92 : byT Tryd.prog 92 = some 40 := by kernel_rfl
@[simp] theorem f_z92 : zT Tryd.prog 92 = some [.int .i64 0, .int .i64 0, .int .i64 0, .int .i64 0, .int .i64 0] := by kernel_rfl
@[simp] theorem f_ar92 : arT Tryd.prog 92 = some (5, 1) := by kernel_rfl
@[simp] theorem f_arA92 : arA Tryd.prog 92 = some false := by kernel_rfl
@[simp] theorem f_ok92 : fldsOk Tryd.prog 92 = true := by kernel_rfl
@[simp] theorem f_pl92_0 : placeT Tryd.prog 92 0 = some (0, 1) := by kernel_rfl
@[simp] theorem f_pl92_1 : placeT Tryd.prog 92 1 = some (1, 1) := by kernel_rfl
@[simp] theorem f_pl92_2 : placeT Tryd.prog 92 2 = some (2, 1) := by kernel_rfl
@[simp] theorem f_pl92_3 : placeT Tryd.prog 92 3 = some (3, 1) := by kernel_rfl
@[simp] theorem f_pl92_4 : placeT Tryd.prog 92 4 = some (4, 1) := by kernel_rfl
@[simp] theorem f_sz93 : szT Tryd.prog 93 = some 1 := by kernel_rfl
@[simp] theorem f_ag93 : aggT Tryd.prog 93 = some false := by kernel_rfl
@[simp] theorem f_ib93 : isBoolT Tryd.prog 93 = false := by kernel_rfl
@[simp] theorem f_is93 : isSlT Tryd.prog 93 = true := by kernel_rfl
@[simp] theorem f_by93 : byT Tryd.prog 93 = some 24 := by kernel_rfl
@[simp] theorem f_z93 : zT Tryd.prog 93 = some [.slice none 0 0] := by kernel_rfl
@[simp] theorem f_sl93 : slT Tryd.prog 93 = some 1 := by kernel_rfl
@[simp] theorem f_el93 : elT Tryd.prog 93 = some 66 := by kernel_rfl
@[simp] theorem f_sz94 : szT Tryd.prog 94 = some 0 := by kernel_rfl
@[simp] theorem f_ag94 : aggT Tryd.prog 94 = some true := by kernel_rfl
@[simp] theorem f_ib94 : isBoolT Tryd.prog 94 = false := by kernel_rfl
@[simp] theorem f_is94 : isSlT Tryd.prog 94 = false := by kernel_rfl
@[simp] theorem f_by94 : byT Tryd.prog 94 = some 0 := by kernel_rfl
@[simp] theorem f_z94 : zT Tryd.prog 94 = some [] := by kernel_rfl
@[simp] theorem f_ok94 : fldsOk Tryd.prog 94 = true := by kernel_rfl
@[simp] theorem f_sz95 : szT Tryd.prog 95 = some 0 := by kernel_rfl
@[simp] theorem f_ag95 : aggT Tryd.prog 95 = some true := by kernel_rfl
@[simp] theorem f_ib95 : isBoolT Tryd.prog 95 = false := by kernel_rfl
@[simp] theorem f_is95 : isSlT Tryd.prog 95 = false := by kernel_rfl
@[simp] theorem f_by95 : byT Tryd.prog 95 = some 0 := by kernel_rfl
@[simp] theorem f_z95 : zT Tryd.prog 95 = some [] := by kernel_rfl
@[simp] theorem f_ok95 : fldsOk Tryd.prog 95 = true := by kernel_rfl
@[simp] theorem f_sz97 : szT Tryd.prog 97 = some 1 := by kernel_rfl
@[simp] theorem f_ag97 : aggT Tryd.prog 97 = some false := by kernel_rfl
@[simp] theorem f_ib97 : isBoolT Tryd.prog 97 = false := by kernel_rfl
@[simp] theorem f_is97 : isSlT Tryd.prog 97 = false := by kernel_rfl
@[simp] theorem f_by97 : byT Tryd.prog 97 = some 8 := by kernel_rfl
@[simp] theorem f_z97 : zT Tryd.prog 97 = some [.pointer none] := by kernel_rfl
@[simp] theorem f_sz98 : szT Tryd.prog 98 = some 1 := by kernel_rfl
@[simp] theorem f_ag98 : aggT Tryd.prog 98 = some true := by kernel_rfl
@[simp] theorem f_ib98 : isBoolT Tryd.prog 98 = false := by kernel_rfl
@[simp] theorem f_is98 : isSlT Tryd.prog 98 = false := by kernel_rfl
@[simp] theorem f_by98 : byT Tryd.prog 98 = some 16 := by kernel_rfl
@[simp] theorem f_z98 : zT Tryd.prog 98 = some [.string ByteArray.empty] := by kernel_rfl
@[simp] theorem f_ok98 : fldsOk Tryd.prog 98 = true := by kernel_rfl
@[simp] theorem f_fld98_0 : fldT Tryd.prog 98 0 = some (0, 1) := by kernel_rfl
@[simp] theorem f_fldA98_0 : fldA Tryd.prog 98 0 = some false := by kernel_rfl
@[simp] theorem f_pl98_0 : placeT Tryd.prog 98 0 = some (0, 1) := by kernel_rfl
@[simp] theorem f_sz99 : szT Tryd.prog 99 = some 1 := by kernel_rfl
@[simp] theorem f_ag99 : aggT Tryd.prog 99 = some true := by kernel_rfl
@[simp] theorem f_ib99 : isBoolT Tryd.prog 99 = false := by kernel_rfl
@[simp] theorem f_is99 : isSlT Tryd.prog 99 = false := by kernel_rfl
@[simp] theorem f_by99 : byT Tryd.prog 99 = some 16 := by kernel_rfl
@[simp] theorem f_z99 : zT Tryd.prog 99 = some [.string ByteArray.empty] := by kernel_rfl
@[simp] theorem f_ok99 : fldsOk Tryd.prog 99 = true := by kernel_rfl
@[simp] theorem f_fld99_0 : fldT Tryd.prog 99 0 = some (0, 1) := by kernel_rfl
@[simp] theorem f_fldA99_0 : fldA Tryd.prog 99 0 = some false := by kernel_rfl
@[simp] theorem f_pl99_0 : placeT Tryd.prog 99 0 = some (0, 1) := by kernel_rfl
@[simp] theorem f_sz100 : szT Tryd.prog 100 = some 1 := by kernel_rfl
@[simp] theorem f_ag100 : aggT Tryd.prog 100 = some false := by kernel_rfl
@[simp] theorem f_ib100 : isBoolT Tryd.prog 100 = false := by kernel_rfl
@[simp] theorem f_is100 : isSlT Tryd.prog 100 = false := by kernel_rfl
@[simp] theorem f_by100 : byT Tryd.prog 100 = some 8 := by kernel_rfl
@[simp] theorem f_z100 : zT Tryd.prog 100 = some [.nilFunc] := by kernel_rfl
@[simp] theorem f_sz101 : szT Tryd.prog 101 = some 1 := by kernel_rfl
@[simp] theorem f_ag101 : aggT Tryd.prog 101 = some false := by kernel_rfl
@[simp] theorem f_ib101 : isBoolT Tryd.prog 101 = false := by kernel_rfl
@[simp] theorem f_is101 : isSlT Tryd.prog 101 = false := by kernel_rfl
@[simp] theorem f_by101 : byT Tryd.prog 101 = some 8 := by kernel_rfl
@[simp] theorem f_z101 : zT Tryd.prog 101 = some [.nilFunc] := by kernel_rfl
@[simp] theorem f_sz105 : szT Tryd.prog 105 = some 1 := by kernel_rfl
@[simp] theorem f_ag105 : aggT Tryd.prog 105 = some false := by kernel_rfl
@[simp] theorem f_ib105 : isBoolT Tryd.prog 105 = false := by kernel_rfl
@[simp] theorem f_is105 : isSlT Tryd.prog 105 = false := by kernel_rfl
@[simp] theorem f_by105 : byT Tryd.prog 105 = some 8 := by kernel_rfl
@[simp] theorem f_z105 : zT Tryd.prog 105 = some [.nilFunc] := by kernel_rfl
@[simp] theorem f_sz106 : szT Tryd.prog 106 = some 1 := by kernel_rfl
@[simp] theorem f_ag106 : aggT Tryd.prog 106 = some false := by kernel_rfl
@[simp] theorem f_ib106 : isBoolT Tryd.prog 106 = false := by kernel_rfl
@[simp] theorem f_is106 : isSlT Tryd.prog 106 = false := by kernel_rfl
@[simp] theorem f_by106 : byT Tryd.prog 106 = some 8 := by kernel_rfl
@[simp] theorem f_z106 : zT Tryd.prog 106 = some [.nilFunc] := by kernel_rfl
@[simp] theorem f_sz107 : szT Tryd.prog 107 = some 1 := by kernel_rfl
@[simp] theorem f_ag107 : aggT Tryd.prog 107 = some false := by kernel_rfl
@[simp] theorem f_ib107 : isBoolT Tryd.prog 107 = false := by kernel_rfl
@[simp] theorem f_is107 : isSlT Tryd.prog 107 = false := by kernel_rfl
@[simp] theorem f_by107 : byT Tryd.prog 107 = some 8 := by kernel_rfl
@[simp] theorem f_z107 : zT Tryd.prog 107 = some [.pointer none] := by kernel_rfl
@[simp] theorem f_sz108 : szT Tryd.prog 108 = some 1 := by kernel_rfl
@[simp] theorem f_ag108 : aggT Tryd.prog 108 = some false := by kernel_rfl
@[simp] theorem f_ib108 : isBoolT Tryd.prog 108 = false := by kernel_rfl
@[simp] theorem f_is108 : isSlT Tryd.prog 108 = false := by kernel_rfl
@[simp] theorem f_by108 : byT Tryd.prog 108 = some 8 := by kernel_rfl
@[simp] theorem f_z108 : zT Tryd.prog 108 = some [.nilFunc] := by kernel_rfl
@[simp] theorem f_sz109 : szT Tryd.prog 109 = some 2 := by kernel_rfl
@[simp] theorem f_ag109 : aggT Tryd.prog 109 = some true := by kernel_rfl
@[simp] theorem f_ib109 : isBoolT Tryd.prog 109 = false := by kernel_rfl
@[simp] theorem f_is109 : isSlT Tryd.prog 109 = false := by kernel_rfl
@[simp] theorem f_by109 : byT Tryd.prog 109 = some 48 := by kernel_rfl
@[simp] theorem f_z109 : zT Tryd.prog 109 = some [.slice none 0 0, .slice none 0 0] := by kernel_rfl
@[simp] theorem f_ok109 : fldsOk Tryd.prog 109 = true := by kernel_rfl
@[simp] theorem f_fld109_0 : fldT Tryd.prog 109 0 = some (0, 1) := by kernel_rfl
@[simp] theorem f_fldA109_0 : fldA Tryd.prog 109 0 = some false := by kernel_rfl
@[simp] theorem f_pl109_0 : placeT Tryd.prog 109 0 = some (0, 1) := by kernel_rfl
@[simp] theorem f_fld109_1 : fldT Tryd.prog 109 1 = some (1, 1) := by kernel_rfl
@[simp] theorem f_fldA109_1 : fldA Tryd.prog 109 1 = some false := by kernel_rfl
@[simp] theorem f_pl109_1 : placeT Tryd.prog 109 1 = some (1, 1) := by kernel_rfl
@[simp] theorem f_sz110 : szT Tryd.prog 110 = some 2 := by kernel_rfl
@[simp] theorem f_ag110 : aggT Tryd.prog 110 = some true := by kernel_rfl
@[simp] theorem f_ib110 : isBoolT Tryd.prog 110 = false := by kernel_rfl
@[simp] theorem f_is110 : isSlT Tryd.prog 110 = false := by kernel_rfl
@[simp] theorem f_by110 : byT Tryd.prog 110 = some 48 := by kernel_rfl
@[simp] theorem f_z110 : zT Tryd.prog 110 = some [.slice none 0 0, .slice none 0 0] := by kernel_rfl
@[simp] theorem f_ok110 : fldsOk Tryd.prog 110 = true := by kernel_rfl
@[simp] theorem f_fld110_0 : fldT Tryd.prog 110 0 = some (0, 1) := by kernel_rfl
@[simp] theorem f_fldA110_0 : fldA Tryd.prog 110 0 = some false := by kernel_rfl
@[simp] theorem f_pl110_0 : placeT Tryd.prog 110 0 = some (0, 1) := by kernel_rfl
@[simp] theorem f_fld110_1 : fldT Tryd.prog 110 1 = some (1, 1) := by kernel_rfl
@[simp] theorem f_fldA110_1 : fldA Tryd.prog 110 1 = some false := by kernel_rfl
@[simp] theorem f_pl110_1 : placeT Tryd.prog 110 1 = some (1, 1) := by kernel_rfl
@[simp] theorem f_sz112 : szT Tryd.prog 112 = some 1 := by kernel_rfl
@[simp] theorem f_ag112 : aggT Tryd.prog 112 = some false := by kernel_rfl
@[simp] theorem f_ib112 : isBoolT Tryd.prog 112 = false := by kernel_rfl
@[simp] theorem f_is112 : isSlT Tryd.prog 112 = false := by kernel_rfl
@[simp] theorem f_by112 : byT Tryd.prog 112 = some 8 := by kernel_rfl
@[simp] theorem f_z112 : zT Tryd.prog 112 = some [.nilFunc] := by kernel_rfl
@[simp] theorem f_sz113 : szT Tryd.prog 113 = some 1 := by kernel_rfl
@[simp] theorem f_ag113 : aggT Tryd.prog 113 = some false := by kernel_rfl
@[simp] theorem f_ib113 : isBoolT Tryd.prog 113 = false := by kernel_rfl
@[simp] theorem f_is113 : isSlT Tryd.prog 113 = false := by kernel_rfl
@[simp] theorem f_by113 : byT Tryd.prog 113 = some 8 := by kernel_rfl
@[simp] theorem f_z113 : zT Tryd.prog 113 = some [.nilFunc] := by kernel_rfl
@[simp] theorem f_sz114 : szT Tryd.prog 114 = some 1 := by kernel_rfl
@[simp] theorem f_ag114 : aggT Tryd.prog 114 = some false := by kernel_rfl
@[simp] theorem f_ib114 : isBoolT Tryd.prog 114 = false := by kernel_rfl
@[simp] theorem f_is114 : isSlT Tryd.prog 114 = false := by kernel_rfl
@[simp] theorem f_by114 : byT Tryd.prog 114 = some 8 := by kernel_rfl
@[simp] theorem f_z114 : zT Tryd.prog 114 = some [.nilFunc] := by kernel_rfl
@[simp] theorem f_sz115 : szT Tryd.prog 115 = some 1 := by kernel_rfl
@[simp] theorem f_ag115 : aggT Tryd.prog 115 = some false := by kernel_rfl
@[simp] theorem f_ib115 : isBoolT Tryd.prog 115 = false := by kernel_rfl
@[simp] theorem f_is115 : isSlT Tryd.prog 115 = false := by kernel_rfl
@[simp] theorem f_by115 : byT Tryd.prog 115 = some 8 := by kernel_rfl
@[simp] theorem f_z115 : zT Tryd.prog 115 = some [.nilFunc] := by kernel_rfl
@[simp] theorem f_sz116 : szT Tryd.prog 116 = some 1 := by kernel_rfl
@[simp] theorem f_ag116 : aggT Tryd.prog 116 = some false := by kernel_rfl
@[simp] theorem f_ib116 : isBoolT Tryd.prog 116 = false := by kernel_rfl
@[simp] theorem f_is116 : isSlT Tryd.prog 116 = false := by kernel_rfl
@[simp] theorem f_by116 : byT Tryd.prog 116 = some 8 := by kernel_rfl
@[simp] theorem f_z116 : zT Tryd.prog 116 = some [.nilFunc] := by kernel_rfl
@[simp] theorem f_sz117 : szT Tryd.prog 117 = some 1 := by kernel_rfl
@[simp] theorem f_ag117 : aggT Tryd.prog 117 = some false := by kernel_rfl
@[simp] theorem f_ib117 : isBoolT Tryd.prog 117 = false := by kernel_rfl
@[simp] theorem f_is117 : isSlT Tryd.prog 117 = false := by kernel_rfl
@[simp] theorem f_by117 : byT Tryd.prog 117 = some 8 := by kernel_rfl
@[simp] theorem f_z117 : zT Tryd.prog 117 = some [.nilFunc] := by kernel_rfl
@[simp] theorem f_sz118 : szT Tryd.prog 118 = some 1 := by kernel_rfl
@[simp] theorem f_ag118 : aggT Tryd.prog 118 = some false := by kernel_rfl
@[simp] theorem f_ib118 : isBoolT Tryd.prog 118 = false := by kernel_rfl
@[simp] theorem f_is118 : isSlT Tryd.prog 118 = false := by kernel_rfl
@[simp] theorem f_by118 : byT Tryd.prog 118 = some 8 := by kernel_rfl
@[simp] theorem f_z118 : zT Tryd.prog 118 = some [.nilFunc] := by kernel_rfl
@[simp] theorem f_sz119 : szT Tryd.prog 119 = some 1 := by kernel_rfl
@[simp] theorem f_ag119 : aggT Tryd.prog 119 = some false := by kernel_rfl
@[simp] theorem f_ib119 : isBoolT Tryd.prog 119 = false := by kernel_rfl
@[simp] theorem f_is119 : isSlT Tryd.prog 119 = false := by kernel_rfl
@[simp] theorem f_by119 : byT Tryd.prog 119 = some 8 := by kernel_rfl
@[simp] theorem f_z119 : zT Tryd.prog 119 = some [.nilFunc] := by kernel_rfl
@[simp] theorem f_sz120 : szT Tryd.prog 120 = some 1 := by kernel_rfl
@[simp] theorem f_ag120 : aggT Tryd.prog 120 = some false := by kernel_rfl
@[simp] theorem f_ib120 : isBoolT Tryd.prog 120 = false := by kernel_rfl
@[simp] theorem f_is120 : isSlT Tryd.prog 120 = false := by kernel_rfl
@[simp] theorem f_by120 : byT Tryd.prog 120 = some 8 := by kernel_rfl
@[simp] theorem f_z120 : zT Tryd.prog 120 = some [.nilFunc] := by kernel_rfl
@[simp] theorem f_sz122 : szT Tryd.prog 122 = some 1 := by kernel_rfl
@[simp] theorem f_ag122 : aggT Tryd.prog 122 = some false := by kernel_rfl
@[simp] theorem f_ib122 : isBoolT Tryd.prog 122 = false := by kernel_rfl
@[simp] theorem f_is122 : isSlT Tryd.prog 122 = false := by kernel_rfl
@[simp] theorem f_by122 : byT Tryd.prog 122 = some 8 := by kernel_rfl
@[simp] theorem f_z122 : zT Tryd.prog 122 = some [.nilFunc] := by kernel_rfl
@[simp] theorem f_sz124 : szT Tryd.prog 124 = some 1 := by kernel_rfl
@[simp] theorem f_ag124 : aggT Tryd.prog 124 = some false := by kernel_rfl
@[simp] theorem f_ib124 : isBoolT Tryd.prog 124 = false := by kernel_rfl
@[simp] theorem f_is124 : isSlT Tryd.prog 124 = false := by kernel_rfl
@[simp] theorem f_by124 : byT Tryd.prog 124 = some 8 := by kernel_rfl
@[simp] theorem f_z124 : zT Tryd.prog 124 = some [.nilFunc] := by kernel_rfl
@[simp] theorem f_sz125 : szT Tryd.prog 125 = some 1 := by kernel_rfl
@[simp] theorem f_ag125 : aggT Tryd.prog 125 = some false := by kernel_rfl
@[simp] theorem f_ib125 : isBoolT Tryd.prog 125 = false := by kernel_rfl
@[simp] theorem f_is125 : isSlT Tryd.prog 125 = false := by kernel_rfl
@[simp] theorem f_by125 : byT Tryd.prog 125 = some 8 := by kernel_rfl
@[simp] theorem f_z125 : zT Tryd.prog 125 = some [.nilFunc] := by kernel_rfl
@[simp] theorem f_sz126 : szT Tryd.prog 126 = some 1 := by kernel_rfl
@[simp] theorem f_ag126 : aggT Tryd.prog 126 = some false := by kernel_rfl
@[simp] theorem f_ib126 : isBoolT Tryd.prog 126 = false := by kernel_rfl
@[simp] theorem f_is126 : isSlT Tryd.prog 126 = false := by kernel_rfl
@[simp] theorem f_by126 : byT Tryd.prog 126 = some 8 := by kernel_rfl
@[simp] theorem f_z126 : zT Tryd.prog 126 = some [.nilFunc] := by kernel_rfl
@[simp] theorem f_sz127 : szT Tryd.prog 127 = some 1 := by kernel_rfl
@[simp] theorem f_ag127 : aggT Tryd.prog 127 = some false := by kernel_rfl
@[simp] theorem f_ib127 : isBoolT Tryd.prog 127 = false := by kernel_rfl
@[simp] theorem f_is127 : isSlT Tryd.prog 127 = true := by kernel_rfl
@[simp] theorem f_by127 : byT Tryd.prog 127 = some 24 := by kernel_rfl
@[simp] theorem f_z127 : zT Tryd.prog 127 = some [.slice none 0 0] := by kernel_rfl
@[simp] theorem f_sl127 : slT Tryd.prog 127 = some 2 := by kernel_rfl
@[simp] theorem f_el127 : elT Tryd.prog 127 = some 129 := by kernel_rfl
@[simp] theorem f_sz128 : szT Tryd.prog 128 = some 2 := by kernel_rfl
@[simp] theorem f_ag128 : aggT Tryd.prog 128 = some true := by kernel_rfl
@[simp] theorem f_ib128 : isBoolT Tryd.prog 128 = false := by kernel_rfl
@[simp] theorem f_is128 : isSlT Tryd.prog 128 = false := by kernel_rfl
@[simp] theorem f_by128 : byT Tryd.prog 128 = some 32 := by kernel_rfl
@[simp] theorem f_z128 : zT Tryd.prog 128 = some [.int .i64 0, .slice none 0 0] := by kernel_rfl
@[simp] theorem f_ok128 : fldsOk Tryd.prog 128 = true := by kernel_rfl
@[simp] theorem f_fld128_0 : fldT Tryd.prog 128 0 = some (0, 1) := by kernel_rfl
@[simp] theorem f_fldA128_0 : fldA Tryd.prog 128 0 = some false := by kernel_rfl
@[simp] theorem f_pl128_0 : placeT Tryd.prog 128 0 = some (0, 1) := by kernel_rfl
@[simp] theorem f_fld128_1 : fldT Tryd.prog 128 1 = some (1, 1) := by kernel_rfl
@[simp] theorem f_fldA128_1 : fldA Tryd.prog 128 1 = some false := by kernel_rfl
@[simp] theorem f_pl128_1 : placeT Tryd.prog 128 1 = some (1, 1) := by kernel_rfl
@[simp] theorem f_sz129 : szT Tryd.prog 129 = some 2 := by kernel_rfl
@[simp] theorem f_ag129 : aggT Tryd.prog 129 = some true := by kernel_rfl
@[simp] theorem f_ib129 : isBoolT Tryd.prog 129 = false := by kernel_rfl
@[simp] theorem f_is129 : isSlT Tryd.prog 129 = false := by kernel_rfl
@[simp] theorem f_by129 : byT Tryd.prog 129 = some 32 := by kernel_rfl
@[simp] theorem f_z129 : zT Tryd.prog 129 = some [.int .i64 0, .slice none 0 0] := by kernel_rfl
@[simp] theorem f_ok129 : fldsOk Tryd.prog 129 = true := by kernel_rfl
@[simp] theorem f_fld129_0 : fldT Tryd.prog 129 0 = some (0, 1) := by kernel_rfl
@[simp] theorem f_fldA129_0 : fldA Tryd.prog 129 0 = some false := by kernel_rfl
@[simp] theorem f_pl129_0 : placeT Tryd.prog 129 0 = some (0, 1) := by kernel_rfl
@[simp] theorem f_fld129_1 : fldT Tryd.prog 129 1 = some (1, 1) := by kernel_rfl
@[simp] theorem f_fldA129_1 : fldA Tryd.prog 129 1 = some false := by kernel_rfl
@[simp] theorem f_pl129_1 : placeT Tryd.prog 129 1 = some (1, 1) := by kernel_rfl
@[simp] theorem f_sz130 : szT Tryd.prog 130 = some 1 := by kernel_rfl
@[simp] theorem f_ag130 : aggT Tryd.prog 130 = some false := by kernel_rfl
@[simp] theorem f_ib130 : isBoolT Tryd.prog 130 = false := by kernel_rfl
@[simp] theorem f_is130 : isSlT Tryd.prog 130 = false := by kernel_rfl
@[simp] theorem f_by130 : byT Tryd.prog 130 = some 8 := by kernel_rfl
@[simp] theorem f_z130 : zT Tryd.prog 130 = some [.nilFunc] := by kernel_rfl
@[simp] theorem f_sz131 : szT Tryd.prog 131 = some 1 := by kernel_rfl
@[simp] theorem f_ag131 : aggT Tryd.prog 131 = some false := by kernel_rfl
@[simp] theorem f_ib131 : isBoolT Tryd.prog 131 = false := by kernel_rfl
@[simp] theorem f_is131 : isSlT Tryd.prog 131 = false := by kernel_rfl
@[simp] theorem f_by131 : byT Tryd.prog 131 = some 8 := by kernel_rfl
@[simp] theorem f_z131 : zT Tryd.prog 131 = some [.nilFunc] := by kernel_rfl
@[simp] theorem f_sz132 : szT Tryd.prog 132 = some 1 := by kernel_rfl
@[simp] theorem f_ag132 : aggT Tryd.prog 132 = some false := by kernel_rfl
@[simp] theorem f_ib132 : isBoolT Tryd.prog 132 = false := by kernel_rfl
@[simp] theorem f_is132 : isSlT Tryd.prog 132 = false := by kernel_rfl
@[simp] theorem f_by132 : byT Tryd.prog 132 = some 8 := by kernel_rfl
@[simp] theorem f_z132 : zT Tryd.prog 132 = some [.nilFunc] := by kernel_rfl
@[simp] theorem f_sz133 : szT Tryd.prog 133 = some 1 := by kernel_rfl
@[simp] theorem f_ag133 : aggT Tryd.prog 133 = some false := by kernel_rfl
@[simp] theorem f_ib133 : isBoolT Tryd.prog 133 = false := by kernel_rfl
@[simp] theorem f_is133 : isSlT Tryd.prog 133 = false := by kernel_rfl
@[simp] theorem f_by133 : byT Tryd.prog 133 = some 8 := by kernel_rfl
@[simp] theorem f_z133 : zT Tryd.prog 133 = some [.nilFunc] := by kernel_rfl
@[simp] theorem f_sz134 : szT Tryd.prog 134 = some 1 := by kernel_rfl
@[simp] theorem f_ag134 : aggT Tryd.prog 134 = some false := by kernel_rfl
@[simp] theorem f_ib134 : isBoolT Tryd.prog 134 = false := by kernel_rfl
@[simp] theorem f_is134 : isSlT Tryd.prog 134 = false := by kernel_rfl
@[simp] theorem f_by134 : byT Tryd.prog 134 = some 8 := by kernel_rfl
@[simp] theorem f_z134 : zT Tryd.prog 134 = some [.nilFunc] := by kernel_rfl
@[simp] theorem f_sz135 : szT Tryd.prog 135 = some 1 := by kernel_rfl
@[simp] theorem f_ag135 : aggT Tryd.prog 135 = some false := by kernel_rfl
@[simp] theorem f_ib135 : isBoolT Tryd.prog 135 = false := by kernel_rfl
@[simp] theorem f_is135 : isSlT Tryd.prog 135 = false := by kernel_rfl
@[simp] theorem f_by135 : byT Tryd.prog 135 = some 8 := by kernel_rfl
@[simp] theorem f_z135 : zT Tryd.prog 135 = some [.nilFunc] := by kernel_rfl
@[simp] theorem f_sz136 : szT Tryd.prog 136 = some 1 := by kernel_rfl
@[simp] theorem f_ag136 : aggT Tryd.prog 136 = some false := by kernel_rfl
@[simp] theorem f_ib136 : isBoolT Tryd.prog 136 = false := by kernel_rfl
@[simp] theorem f_is136 : isSlT Tryd.prog 136 = false := by kernel_rfl
@[simp] theorem f_by136 : byT Tryd.prog 136 = some 8 := by kernel_rfl
@[simp] theorem f_z136 : zT Tryd.prog 136 = some [.nilFunc] := by kernel_rfl
@[simp] theorem f_sz138 : szT Tryd.prog 138 = some 1 := by kernel_rfl
@[simp] theorem f_ag138 : aggT Tryd.prog 138 = some false := by kernel_rfl
@[simp] theorem f_ib138 : isBoolT Tryd.prog 138 = false := by kernel_rfl
@[simp] theorem f_is138 : isSlT Tryd.prog 138 = false := by kernel_rfl
@[simp] theorem f_by138 : byT Tryd.prog 138 = some 8 := by kernel_rfl
@[simp] theorem f_z138 : zT Tryd.prog 138 = some [.nilFunc] := by kernel_rfl
@[simp] theorem f_sz139 : szT Tryd.prog 139 = some 1 := by kernel_rfl
@[simp] theorem f_ag139 : aggT Tryd.prog 139 = some false := by kernel_rfl
@[simp] theorem f_ib139 : isBoolT Tryd.prog 139 = false := by kernel_rfl
@[simp] theorem f_is139 : isSlT Tryd.prog 139 = false := by kernel_rfl
@[simp] theorem f_by139 : byT Tryd.prog 139 = some 8 := by kernel_rfl
@[simp] theorem f_z139 : zT Tryd.prog 139 = some [.nilFunc] := by kernel_rfl
@[simp] theorem f_sz140 : szT Tryd.prog 140 = some 1 := by kernel_rfl
@[simp] theorem f_ag140 : aggT Tryd.prog 140 = some false := by kernel_rfl
@[simp] theorem f_ib140 : isBoolT Tryd.prog 140 = false := by kernel_rfl
@[simp] theorem f_is140 : isSlT Tryd.prog 140 = false := by kernel_rfl
@[simp] theorem f_by140 : byT Tryd.prog 140 = some 8 := by kernel_rfl
@[simp] theorem f_z140 : zT Tryd.prog 140 = some [.int .u64 0] := by kernel_rfl
@[simp] theorem f_sz141 : szT Tryd.prog 141 = some 1 := by kernel_rfl
@[simp] theorem f_ag141 : aggT Tryd.prog 141 = some false := by kernel_rfl
@[simp] theorem f_ib141 : isBoolT Tryd.prog 141 = false := by kernel_rfl
@[simp] theorem f_is141 : isSlT Tryd.prog 141 = false := by kernel_rfl
@[simp] theorem f_by141 : byT Tryd.prog 141 = some 8 := by kernel_rfl
@[simp] theorem f_z141 : zT Tryd.prog 141 = some [.nilFunc] := by kernel_rfl
@[simp] theorem f_sz142 : szT Tryd.prog 142 = some 1 := by kernel_rfl
@[simp] theorem f_ag142 : aggT Tryd.prog 142 = some false := by kernel_rfl
@[simp] theorem f_ib142 : isBoolT Tryd.prog 142 = false := by kernel_rfl
@[simp] theorem f_is142 : isSlT Tryd.prog 142 = false := by kernel_rfl
@[simp] theorem f_by142 : byT Tryd.prog 142 = some 8 := by kernel_rfl
@[simp] theorem f_z142 : zT Tryd.prog 142 = some [.nilFunc] := by kernel_rfl
@[simp] theorem f_sz143 : szT Tryd.prog 143 = some 1 := by kernel_rfl
@[simp] theorem f_ag143 : aggT Tryd.prog 143 = some false := by kernel_rfl
@[simp] theorem f_ib143 : isBoolT Tryd.prog 143 = false := by kernel_rfl
@[simp] theorem f_is143 : isSlT Tryd.prog 143 = false := by kernel_rfl
@[simp] theorem f_by143 : byT Tryd.prog 143 = some 8 := by kernel_rfl
@[simp] theorem f_z143 : zT Tryd.prog 143 = some [.nilFunc] := by kernel_rfl
@[simp] theorem f_sz144 : szT Tryd.prog 144 = some 1 := by kernel_rfl
@[simp] theorem f_ag144 : aggT Tryd.prog 144 = some false := by kernel_rfl
@[simp] theorem f_ib144 : isBoolT Tryd.prog 144 = false := by kernel_rfl
@[simp] theorem f_is144 : isSlT Tryd.prog 144 = false := by kernel_rfl
@[simp] theorem f_by144 : byT Tryd.prog 144 = some 8 := by kernel_rfl
@[simp] theorem f_z144 : zT Tryd.prog 144 = some [.nilFunc] := by kernel_rfl
@[simp] theorem f_sz145 : szT Tryd.prog 145 = some 1 := by kernel_rfl
@[simp] theorem f_ag145 : aggT Tryd.prog 145 = some false := by kernel_rfl
@[simp] theorem f_ib145 : isBoolT Tryd.prog 145 = false := by kernel_rfl
@[simp] theorem f_is145 : isSlT Tryd.prog 145 = false := by kernel_rfl
@[simp] theorem f_by145 : byT Tryd.prog 145 = some 8 := by kernel_rfl
@[simp] theorem f_z145 : zT Tryd.prog 145 = some [.nilFunc] := by kernel_rfl
@[simp] theorem f_sz146 : szT Tryd.prog 146 = some 1 := by kernel_rfl
@[simp] theorem f_ag146 : aggT Tryd.prog 146 = some false := by kernel_rfl
@[simp] theorem f_ib146 : isBoolT Tryd.prog 146 = false := by kernel_rfl
@[simp] theorem f_is146 : isSlT Tryd.prog 146 = false := by kernel_rfl
@[simp] theorem f_by146 : byT Tryd.prog 146 = some 8 := by kernel_rfl
@[simp] theorem f_z146 : zT Tryd.prog 146 = some [.nilFunc] := by kernel_rfl
@[simp] theorem f_sz147 : szT Tryd.prog 147 = some 1 := by kernel_rfl
@[simp] theorem f_ag147 : aggT Tryd.prog 147 = some false := by kernel_rfl
@[simp] theorem f_ib147 : isBoolT Tryd.prog 147 = false := by kernel_rfl
@[simp] theorem f_is147 : isSlT Tryd.prog 147 = false := by kernel_rfl
@[simp] theorem f_by147 : byT Tryd.prog 147 = some 4 := by kernel_rfl
@[simp] theorem f_z147 : zT Tryd.prog 147 = some [.int .u32 0] := by kernel_rfl
@[simp] theorem f_sz148 : szT Tryd.prog 148 = some 1 := by kernel_rfl
@[simp] theorem f_ag148 : aggT Tryd.prog 148 = some false := by kernel_rfl
@[simp] theorem f_ib148 : isBoolT Tryd.prog 148 = false := by kernel_rfl
@[simp] theorem f_is148 : isSlT Tryd.prog 148 = false := by kernel_rfl
@[simp] theorem f_by148 : byT Tryd.prog 148 = some 8 := by kernel_rfl
@[simp] theorem f_z148 : zT Tryd.prog 148 = some [.nilFunc] := by kernel_rfl
@[simp] theorem f_sz149 : szT Tryd.prog 149 = some 1 := by kernel_rfl
@[simp] theorem f_ag149 : aggT Tryd.prog 149 = some false := by kernel_rfl
@[simp] theorem f_ib149 : isBoolT Tryd.prog 149 = false := by kernel_rfl
@[simp] theorem f_is149 : isSlT Tryd.prog 149 = false := by kernel_rfl
@[simp] theorem f_by149 : byT Tryd.prog 149 = some 8 := by kernel_rfl
@[simp] theorem f_z149 : zT Tryd.prog 149 = some [.int .u64 0] := by kernel_rfl
@[simp] theorem f_sz150 : szT Tryd.prog 150 = some 1 := by kernel_rfl
@[simp] theorem f_ag150 : aggT Tryd.prog 150 = some false := by kernel_rfl
@[simp] theorem f_ib150 : isBoolT Tryd.prog 150 = false := by kernel_rfl
@[simp] theorem f_is150 : isSlT Tryd.prog 150 = false := by kernel_rfl
@[simp] theorem f_by150 : byT Tryd.prog 150 = some 8 := by kernel_rfl
@[simp] theorem f_z150 : zT Tryd.prog 150 = some [.nilFunc] := by kernel_rfl
@[simp] theorem f_sz151 : szT Tryd.prog 151 = some 1 := by kernel_rfl
@[simp] theorem f_ag151 : aggT Tryd.prog 151 = some false := by kernel_rfl
@[simp] theorem f_ib151 : isBoolT Tryd.prog 151 = false := by kernel_rfl
@[simp] theorem f_is151 : isSlT Tryd.prog 151 = false := by kernel_rfl
@[simp] theorem f_by151 : byT Tryd.prog 151 = some 8 := by kernel_rfl
@[simp] theorem f_z151 : zT Tryd.prog 151 = some [.int .i64 0] := by kernel_rfl
@[simp] theorem f_sz153 : szT Tryd.prog 153 = some 1 := by kernel_rfl
@[simp] theorem f_ag153 : aggT Tryd.prog 153 = some false := by kernel_rfl
@[simp] theorem f_ib153 : isBoolT Tryd.prog 153 = false := by kernel_rfl
@[simp] theorem f_is153 : isSlT Tryd.prog 153 = false := by kernel_rfl
@[simp] theorem f_by153 : byT Tryd.prog 153 = some 8 := by kernel_rfl
@[simp] theorem f_z153 : zT Tryd.prog 153 = some [.nilFunc] := by kernel_rfl
@[simp] theorem f_sz154 : szT Tryd.prog 154 = some 1 := by kernel_rfl
@[simp] theorem f_ag154 : aggT Tryd.prog 154 = some false := by kernel_rfl
@[simp] theorem f_ib154 : isBoolT Tryd.prog 154 = false := by kernel_rfl
@[simp] theorem f_is154 : isSlT Tryd.prog 154 = false := by kernel_rfl
@[simp] theorem f_by154 : byT Tryd.prog 154 = some 8 := by kernel_rfl
@[simp] theorem f_z154 : zT Tryd.prog 154 = some [.nilFunc] := by kernel_rfl
@[simp] theorem f_sz155 : szT Tryd.prog 155 = some 1 := by kernel_rfl
@[simp] theorem f_ag155 : aggT Tryd.prog 155 = some false := by kernel_rfl
@[simp] theorem f_ib155 : isBoolT Tryd.prog 155 = false := by kernel_rfl
@[simp] theorem f_is155 : isSlT Tryd.prog 155 = false := by kernel_rfl
@[simp] theorem f_by155 : byT Tryd.prog 155 = some 8 := by kernel_rfl
@[simp] theorem f_z155 : zT Tryd.prog 155 = some [.nilFunc] := by kernel_rfl
@[simp] theorem f_sz156 : szT Tryd.prog 156 = some 1 := by kernel_rfl
@[simp] theorem f_ag156 : aggT Tryd.prog 156 = some false := by kernel_rfl
@[simp] theorem f_ib156 : isBoolT Tryd.prog 156 = false := by kernel_rfl
@[simp] theorem f_is156 : isSlT Tryd.prog 156 = false := by kernel_rfl
@[simp] theorem f_by156 : byT Tryd.prog 156 = some 8 := by kernel_rfl
@[simp] theorem f_z156 : zT Tryd.prog 156 = some [.nilFunc] := by kernel_rfl
@[simp] theorem f_sz157 : szT Tryd.prog 157 = some 1 := by kernel_rfl
@[simp] theorem f_ag157 : aggT Tryd.prog 157 = some false := by kernel_rfl
@[simp] theorem f_ib157 : isBoolT Tryd.prog 157 = false := by kernel_rfl
@[simp] theorem f_is157 : isSlT Tryd.prog 157 = false := by kernel_rfl
@[simp] theorem f_by157 : byT Tryd.prog 157 = some 8 := by kernel_rfl
@[simp] theorem f_z157 : zT Tryd.prog 157 = some [.nilFunc] := by kernel_rfl
@[simp] theorem f_sz158 : szT Tryd.prog 158 = some 1 := by kernel_rfl
@[simp] theorem f_ag158 : aggT Tryd.prog 158 = some false := by kernel_rfl
@[simp] theorem f_ib158 : isBoolT Tryd.prog 158 = false := by kernel_rfl
@[simp] theorem f_is158 : isSlT Tryd.prog 158 = false := by kernel_rfl
@[simp] theorem f_by158 : byT Tryd.prog 158 = some 8 := by kernel_rfl
@[simp] theorem f_z158 : zT Tryd.prog 158 = some [.nilFunc] := by kernel_rfl
@[simp] theorem f_sz159 : szT Tryd.prog 159 = some 1 := by kernel_rfl
@[simp] theorem f_ag159 : aggT Tryd.prog 159 = some false := by kernel_rfl
@[simp] theorem f_ib159 : isBoolT Tryd.prog 159 = false := by kernel_rfl
@[simp] theorem f_is159 : isSlT Tryd.prog 159 = false := by kernel_rfl
@[simp] theorem f_by159 : byT Tryd.prog 159 = some 8 := by kernel_rfl
@[simp] theorem f_z159 : zT Tryd.prog 159 = some [.nilFunc] := by kernel_rfl
@[simp] theorem f_sz160 : szT Tryd.prog 160 = some 1 := by kernel_rfl
@[simp] theorem f_ag160 : aggT Tryd.prog 160 = some false := by kernel_rfl
@[simp] theorem f_ib160 : isBoolT Tryd.prog 160 = false := by kernel_rfl
@[simp] theorem f_is160 : isSlT Tryd.prog 160 = false := by kernel_rfl
@[simp] theorem f_by160 : byT Tryd.prog 160 = some 8 := by kernel_rfl
@[simp] theorem f_z160 : zT Tryd.prog 160 = some [.nilFunc] := by kernel_rfl
@[simp] theorem f_sz161 : szT Tryd.prog 161 = some 1 := by kernel_rfl
@[simp] theorem f_ag161 : aggT Tryd.prog 161 = some false := by kernel_rfl
@[simp] theorem f_ib161 : isBoolT Tryd.prog 161 = false := by kernel_rfl
@[simp] theorem f_is161 : isSlT Tryd.prog 161 = false := by kernel_rfl
@[simp] theorem f_by161 : byT Tryd.prog 161 = some 8 := by kernel_rfl
@[simp] theorem f_z161 : zT Tryd.prog 161 = some [.nilFunc] := by kernel_rfl
@[simp] theorem f_sz162 : szT Tryd.prog 162 = some 32 := by kernel_rfl
@[simp] theorem f_ag162 : aggT Tryd.prog 162 = some true := by kernel_rfl
@[simp] theorem f_ib162 : isBoolT Tryd.prog 162 = false := by kernel_rfl
@[simp] theorem f_is162 : isSlT Tryd.prog 162 = false := by kernel_rfl
@[simp] theorem f_z162 : zT Tryd.prog 162 = some (List.replicate 32 (.int .u8 0)) := by kernel_rfl
@[simp] theorem f_ar162 : arT Tryd.prog 162 = some (32, 1) := by kernel_rfl
@[simp] theorem f_arA162 : arA Tryd.prog 162 = some false := by kernel_rfl
@[simp] theorem f_ok162 : fldsOk Tryd.prog 162 = true := by kernel_rfl
@[simp] theorem f_sz163 : szT Tryd.prog 163 = some 64 := by kernel_rfl
@[simp] theorem f_ag163 : aggT Tryd.prog 163 = some true := by kernel_rfl
@[simp] theorem f_ib163 : isBoolT Tryd.prog 163 = false := by kernel_rfl
@[simp] theorem f_is163 : isSlT Tryd.prog 163 = false := by kernel_rfl
@[simp] theorem f_z163 : zT Tryd.prog 163 = some (List.replicate 64 (.int .u8 0)) := by kernel_rfl
@[simp] theorem f_ar163 : arT Tryd.prog 163 = some (64, 1) := by kernel_rfl
@[simp] theorem f_arA163 : arA Tryd.prog 163 = some false := by kernel_rfl
@[simp] theorem f_ok163 : fldsOk Tryd.prog 163 = true := by kernel_rfl
@[simp] theorem f_sz164 : szT Tryd.prog 164 = some 1 := by kernel_rfl
@[simp] theorem f_ag164 : aggT Tryd.prog 164 = some false := by kernel_rfl
@[simp] theorem f_ib164 : isBoolT Tryd.prog 164 = false := by kernel_rfl
@[simp] theorem f_is164 : isSlT Tryd.prog 164 = false := by kernel_rfl
@[simp] theorem f_by164 : byT Tryd.prog 164 = some 8 := by kernel_rfl
@[simp] theorem f_z164 : zT Tryd.prog 164 = some [.int .u64 0] := by kernel_rfl
@[simp] theorem f_sz165 : szT Tryd.prog 165 = some 1 := by kernel_rfl
@[simp] theorem f_ag165 : aggT Tryd.prog 165 = some false := by kernel_rfl
@[simp] theorem f_ib165 : isBoolT Tryd.prog 165 = false := by kernel_rfl
@[simp] theorem f_is165 : isSlT Tryd.prog 165 = false := by kernel_rfl
@[simp] theorem f_by165 : byT Tryd.prog 165 = some 8 := by kernel_rfl
@[simp] theorem f_z165 : zT Tryd.prog 165 = some [.nilFunc] := by kernel_rfl
@[simp] theorem f_sz166 : szT Tryd.prog 166 = some 1 := by kernel_rfl
@[simp] theorem f_ag166 : aggT Tryd.prog 166 = some false := by kernel_rfl
@[simp] theorem f_ib166 : isBoolT Tryd.prog 166 = false := by kernel_rfl
@[simp] theorem f_is166 : isSlT Tryd.prog 166 = false := by kernel_rfl
@[simp] theorem f_by166 : byT Tryd.prog 166 = some 8 := by kernel_rfl
@[simp] theorem f_z166 : zT Tryd.prog 166 = some [.nilFunc] := by kernel_rfl
@[simp] theorem f_sz167 : szT Tryd.prog 167 = some 1 := by kernel_rfl
@[simp] theorem f_ag167 : aggT Tryd.prog 167 = some false := by kernel_rfl
@[simp] theorem f_ib167 : isBoolT Tryd.prog 167 = false := by kernel_rfl
@[simp] theorem f_is167 : isSlT Tryd.prog 167 = false := by kernel_rfl
@[simp] theorem f_by167 : byT Tryd.prog 167 = some 8 := by kernel_rfl
@[simp] theorem f_z167 : zT Tryd.prog 167 = some [.nilFunc] := by kernel_rfl
@[simp] theorem f_sz168 : szT Tryd.prog 168 = some 1 := by kernel_rfl
@[simp] theorem f_ag168 : aggT Tryd.prog 168 = some false := by kernel_rfl
@[simp] theorem f_ib168 : isBoolT Tryd.prog 168 = false := by kernel_rfl
@[simp] theorem f_is168 : isSlT Tryd.prog 168 = false := by kernel_rfl
@[simp] theorem f_by168 : byT Tryd.prog 168 = some 8 := by kernel_rfl
@[simp] theorem f_z168 : zT Tryd.prog 168 = some [.nilFunc] := by kernel_rfl
@[simp] theorem f_sz169 : szT Tryd.prog 169 = some 1 := by kernel_rfl
@[simp] theorem f_ag169 : aggT Tryd.prog 169 = some false := by kernel_rfl
@[simp] theorem f_ib169 : isBoolT Tryd.prog 169 = false := by kernel_rfl
@[simp] theorem f_is169 : isSlT Tryd.prog 169 = false := by kernel_rfl
@[simp] theorem f_by169 : byT Tryd.prog 169 = some 8 := by kernel_rfl
@[simp] theorem f_z169 : zT Tryd.prog 169 = some [.nilFunc] := by kernel_rfl
@[simp] theorem f_sz170 : szT Tryd.prog 170 = some 1 := by kernel_rfl
@[simp] theorem f_ag170 : aggT Tryd.prog 170 = some false := by kernel_rfl
@[simp] theorem f_ib170 : isBoolT Tryd.prog 170 = false := by kernel_rfl
@[simp] theorem f_is170 : isSlT Tryd.prog 170 = false := by kernel_rfl
@[simp] theorem f_by170 : byT Tryd.prog 170 = some 8 := by kernel_rfl
@[simp] theorem f_z170 : zT Tryd.prog 170 = some [.nilFunc] := by kernel_rfl
@[simp] theorem f_sz171 : szT Tryd.prog 171 = some 1 := by kernel_rfl
@[simp] theorem f_ag171 : aggT Tryd.prog 171 = some false := by kernel_rfl
@[simp] theorem f_ib171 : isBoolT Tryd.prog 171 = false := by kernel_rfl
@[simp] theorem f_is171 : isSlT Tryd.prog 171 = false := by kernel_rfl
@[simp] theorem f_by171 : byT Tryd.prog 171 = some 8 := by kernel_rfl
@[simp] theorem f_z171 : zT Tryd.prog 171 = some [.pointer none] := by kernel_rfl
@[simp] theorem f_eq92 : eqT Tryd.prog 92 = some 5 := by kernel_rfl
@[simp] theorem f_cv3_140 : cvT Tryd.prog 3 140 = some .u64 := by kernel_rfl
@[simp] theorem f_cv3_164 : cvT Tryd.prog 3 164 = some .u64 := by kernel_rfl
@[simp] theorem f_cv5_3 : cvT Tryd.prog 5 3 = some .i64 := by kernel_rfl
@[simp] theorem f_cv140_3 : cvT Tryd.prog 140 3 = some .i64 := by kernel_rfl
@[simp] theorem f_cv140_147 : cvT Tryd.prog 140 147 = some .u32 := by kernel_rfl
@[simp] theorem f_cv147_5 : cvT Tryd.prog 147 5 = some .u8 := by kernel_rfl
@[simp] theorem f_cv149_5 : cvT Tryd.prog 149 5 = some .u8 := by kernel_rfl
@[simp] theorem nt5 : Tryd.f5.ntmps = 45 := rfl
@[simp] theorem re5 : Tryd.f5.results.toList = [.tmp 2] := rfl
theorem call5 : Callable Tryd.prog 5 := callable_of Tryd.func5 rfl (by kernel_rfl)
@[simp] theorem nt9 : Tryd.f9.ntmps = 15 := rfl
@[simp] theorem re9 : Tryd.f9.results.toList = [.tmp 2] := rfl
theorem call9 : Callable Tryd.prog 9 := callable_of Tryd.func9 rfl (by kernel_rfl)
@[simp] theorem nt10 : Tryd.f10.ntmps = 30 := rfl
@[simp] theorem re10 : Tryd.f10.results.toList = [.tmp 0] := rfl
theorem call10 : Callable Tryd.prog 10 := callable_of Tryd.func10 rfl (by kernel_rfl)
@[simp] theorem nt18 : Tryd.f18.ntmps = 19 := rfl
@[simp] theorem re18 : Tryd.f18.results.toList = [.cell 2 27, .tmp 3] := rfl
theorem call18 : Callable Tryd.prog 18 := callable_of Tryd.func18 rfl (by kernel_rfl)
@[simp] theorem nt19 : Tryd.f19.ntmps = 31 := rfl
@[simp] theorem re19 : Tryd.f19.results.toList = [.cell 2 24, .tmp 3] := rfl
theorem call19 : Callable Tryd.prog 19 := callable_of Tryd.func19 rfl (by kernel_rfl)
@[simp] theorem nt20 : Tryd.f20.ntmps = 22 := rfl
@[simp] theorem re20 : Tryd.f20.results.toList = [.tmp 2] := rfl
theorem call20 : Callable Tryd.prog 20 := callable_of Tryd.func20 rfl (by kernel_rfl)
@[simp] theorem nt21 : Tryd.f21.ntmps = 31 := rfl
@[simp] theorem re21 : Tryd.f21.results.toList = [.tmp 4] := rfl
theorem call21 : Callable Tryd.prog 21 := callable_of Tryd.func21 rfl (by kernel_rfl)
@[simp] theorem nt22 : Tryd.f22.ntmps = 6 := rfl
@[simp] theorem re22 : Tryd.f22.results.toList = [.cell 2 24] := rfl
theorem call22 : Callable Tryd.prog 22 := callable_of Tryd.func22 rfl (by kernel_rfl)
@[simp] theorem nt24 : Tryd.f24.ntmps = 6 := rfl
@[simp] theorem re24 : Tryd.f24.results.toList = [.tmp 2] := rfl
theorem call24 : Callable Tryd.prog 24 := callable_of Tryd.func24 rfl (by kernel_rfl)
@[simp] theorem nt27 : Tryd.f27.ntmps = 21 := rfl
@[simp] theorem re27 : Tryd.f27.results.toList = [.tmp 2] := rfl
theorem call27 : Callable Tryd.prog 27 := callable_of Tryd.func27 rfl (by kernel_rfl)
@[simp] theorem nt28 : Tryd.f28.ntmps = 26 := rfl
@[simp] theorem re28 : Tryd.f28.results.toList = [.tmp 4] := rfl
theorem call28 : Callable Tryd.prog 28 := callable_of Tryd.func28 rfl (by kernel_rfl)
@[simp] theorem nt29 : Tryd.f29.ntmps = 69 := rfl
@[simp] theorem re29 : Tryd.f29.results.toList = [.tmp 2] := rfl
theorem call29 : Callable Tryd.prog 29 := callable_of Tryd.func29 rfl (by kernel_rfl)
@[simp] theorem nt30 : Tryd.f30.ntmps = 14 := rfl
@[simp] theorem re30 : Tryd.f30.results.toList = [.tmp 6, .tmp 7] := rfl
theorem call30 : Callable Tryd.prog 30 := callable_of Tryd.func30 rfl (by kernel_rfl)
@[simp] theorem nt31 : Tryd.f31.ntmps = 29 := rfl
@[simp] theorem re31 : Tryd.f31.results.toList = [.tmp 4, .tmp 5] := rfl
theorem call31 : Callable Tryd.prog 31 := callable_of Tryd.func31 rfl (by kernel_rfl)
@[simp] theorem nt32 : Tryd.f32.ntmps = 57 := rfl
@[simp] theorem re32 : Tryd.f32.results.toList = [.tmp 2, .tmp 3] := rfl
theorem call32 : Callable Tryd.prog 32 := callable_of Tryd.func32 rfl (by kernel_rfl)
@[simp] theorem nt38 : Tryd.f38.ntmps = 21 := rfl
@[simp] theorem re38 : Tryd.f38.results.toList = [.cell 2 27, .cell 3 4] := rfl
theorem call38 : Callable Tryd.prog 38 := callable_of Tryd.func38 rfl (by kernel_rfl)
@[simp] theorem nt39 : Tryd.f39.ntmps = 201 := rfl
@[simp] theorem re39 : Tryd.f39.results.toList = [.cell 6 24, .tmp 7, .tmp 8] := rfl
theorem call39 : Callable Tryd.prog 39 := callable_of Tryd.func39 rfl (by kernel_rfl)
@[simp] theorem nt40 : Tryd.f40.ntmps = 32 := rfl
@[simp] theorem re40 : Tryd.f40.results.toList = [.tmp 6] := rfl
theorem call40 : Callable Tryd.prog 40 := callable_of Tryd.func40 rfl (by kernel_rfl)
@[simp] theorem nt41 : Tryd.f41.ntmps = 54 := rfl
@[simp] theorem re41 : Tryd.f41.results.toList = [.cell 6 24] := rfl
theorem call41 : Callable Tryd.prog 41 := callable_of Tryd.func41 rfl (by kernel_rfl)
@[simp] theorem nt42 : Tryd.f42.ntmps = 69 := rfl
@[simp] theorem re42 : Tryd.f42.results.toList = [.tmp 6] := rfl
theorem call42 : Callable Tryd.prog 42 := callable_of Tryd.func42 rfl (by kernel_rfl)
@[simp] theorem nt45 : Tryd.f45.ntmps = 12 := rfl
@[simp] theorem re45 : Tryd.f45.results.toList = [.tmp 2] := rfl
theorem call45 : Callable Tryd.prog 45 := callable_of Tryd.func45 rfl (by kernel_rfl)
@[simp] theorem nt46 : Tryd.f46.ntmps = 84 := rfl
@[simp] theorem re46 : Tryd.f46.results.toList = [.tmp 10, .tmp 11] := rfl
theorem call46 : Callable Tryd.prog 46 := callable_of Tryd.func46 rfl (by kernel_rfl)
@[simp] theorem nt47 : Tryd.f47.ntmps = 25 := rfl
@[simp] theorem re47 : Tryd.f47.results.toList = [.tmp 4, .tmp 5, .tmp 6] := rfl
theorem call47 : Callable Tryd.prog 47 := callable_of Tryd.func47 rfl (by kernel_rfl)
@[simp] theorem nt48 : Tryd.f48.ntmps = 35 := rfl
@[simp] theorem re48 : Tryd.f48.results.toList = [.tmp 4, .tmp 5, .tmp 6] := rfl
theorem call48 : Callable Tryd.prog 48 := callable_of Tryd.func48 rfl (by kernel_rfl)
@[simp] theorem nt52 : Tryd.f52.ntmps = 15 := rfl
@[simp] theorem re52 : Tryd.f52.results.toList = [.tmp 6] := rfl
theorem call52 : Callable Tryd.prog 52 := callable_of Tryd.func52 rfl (by kernel_rfl)
@[simp] theorem nt53 : Tryd.f53.ntmps = 17 := rfl
@[simp] theorem re53 : Tryd.f53.results.toList = [] := rfl
theorem call53 : Callable Tryd.prog 53 := callable_of Tryd.func53 rfl (by kernel_rfl)
@[simp] theorem nt54 : Tryd.f54.ntmps = 68 := rfl
@[simp] theorem re54 : Tryd.f54.results.toList = [.cell 4 27] := rfl
theorem call54 : Callable Tryd.prog 54 := callable_of Tryd.func54 rfl (by kernel_rfl)
@[simp] theorem nt55 : Tryd.f55.ntmps = 18 := rfl
@[simp] theorem re55 : Tryd.f55.results.toList = [.tmp 4] := rfl
theorem call55 : Callable Tryd.prog 55 := callable_of Tryd.func55 rfl (by kernel_rfl)
@[simp] theorem nt56 : Tryd.f56.ntmps = 12 := rfl
@[simp] theorem re56 : Tryd.f56.results.toList = [.tmp 2] := rfl
theorem call56 : Callable Tryd.prog 56 := callable_of Tryd.func56 rfl (by kernel_rfl)
@[simp] theorem nt58 : Tryd.f58.ntmps = 7 := rfl
@[simp] theorem re58 : Tryd.f58.results.toList = [.tmp 2] := rfl
theorem call58 : Callable Tryd.prog 58 := callable_of Tryd.func58 rfl (by kernel_rfl)
@[simp] theorem nt59 : Tryd.f59.ntmps = 9 := rfl
@[simp] theorem re59 : Tryd.f59.results.toList = [.tmp 2] := rfl
theorem call59 : Callable Tryd.prog 59 := callable_of Tryd.func59 rfl (by kernel_rfl)
@[simp] theorem nt60 : Tryd.f60.ntmps = 30 := rfl
@[simp] theorem re60 : Tryd.f60.results.toList = [.tmp 6] := rfl
theorem call60 : Callable Tryd.prog 60 := callable_of Tryd.func60 rfl (by kernel_rfl)
@[simp] theorem nt61 : Tryd.f61.ntmps = 25 := rfl
@[simp] theorem re61 : Tryd.f61.results.toList = [.tmp 4] := rfl
theorem call61 : Callable Tryd.prog 61 := callable_of Tryd.func61 rfl (by kernel_rfl)
@[simp] theorem nt62 : Tryd.f62.ntmps = 21 := rfl
@[simp] theorem re62 : Tryd.f62.results.toList = [.tmp 2, .tmp 3] := rfl
theorem call62 : Callable Tryd.prog 62 := callable_of Tryd.func62 rfl (by kernel_rfl)
@[simp] theorem nt63 : Tryd.f63.ntmps = 26 := rfl
@[simp] theorem re63 : Tryd.f63.results.toList = [.tmp 4] := rfl
theorem call63 : Callable Tryd.prog 63 := callable_of Tryd.func63 rfl (by kernel_rfl)
@[simp] theorem nt64 : Tryd.f64.ntmps = 24 := rfl
@[simp] theorem re64 : Tryd.f64.results.toList = [.tmp 4] := rfl
theorem call64 : Callable Tryd.prog 64 := callable_of Tryd.func64 rfl (by kernel_rfl)
@[simp] theorem nt65 : Tryd.f65.ntmps = 6 := rfl
@[simp] theorem re65 : Tryd.f65.results.toList = [.tmp 2] := rfl
theorem call65 : Callable Tryd.prog 65 := callable_of Tryd.func65 rfl (by kernel_rfl)
@[simp] theorem nt67 : Tryd.f67.ntmps = 22 := rfl
@[simp] theorem re67 : Tryd.f67.results.toList = [.tmp 4] := rfl
theorem call67 : Callable Tryd.prog 67 := callable_of Tryd.func67 rfl (by kernel_rfl)
@[simp] theorem nt68 : Tryd.f68.ntmps = 10 := rfl
@[simp] theorem re68 : Tryd.f68.results.toList = [] := rfl
theorem call68 : Callable Tryd.prog 68 := callable_of Tryd.func68 rfl (by kernel_rfl)
@[simp] theorem nt69 : Tryd.f69.ntmps = 15 := rfl
@[simp] theorem re69 : Tryd.f69.results.toList = [.tmp 2] := rfl
theorem call69 : Callable Tryd.prog 69 := callable_of Tryd.func69 rfl (by kernel_rfl)
@[simp] theorem nt71 : Tryd.f71.ntmps = 89 := rfl
@[simp] theorem re71 : Tryd.f71.results.toList = [.cell 4 27, .tmp 5] := rfl
theorem call71 : Callable Tryd.prog 71 := callable_of Tryd.func71 rfl (by kernel_rfl)
@[simp] theorem nt72 : Tryd.f72.ntmps = 38 := rfl
@[simp] theorem re72 : Tryd.f72.results.toList = [.tmp 6] := rfl
theorem call72 : Callable Tryd.prog 72 := callable_of Tryd.func72 rfl (by kernel_rfl)
@[simp] theorem nt73 : Tryd.f73.ntmps = 8 := rfl
@[simp] theorem re73 : Tryd.f73.results.toList = [.tmp 2] := rfl
theorem call73 : Callable Tryd.prog 73 := callable_of Tryd.func73 rfl (by kernel_rfl)
@[simp] theorem nt74 : Tryd.f74.ntmps = 78 := rfl
@[simp] theorem re74 : Tryd.f74.results.toList = [.tmp 4] := rfl
theorem call74 : Callable Tryd.prog 74 := callable_of Tryd.func74 rfl (by kernel_rfl)
@[simp] theorem nt75 : Tryd.f75.ntmps = 25 := rfl
@[simp] theorem re75 : Tryd.f75.results.toList = [.tmp 2] := rfl
theorem call75 : Callable Tryd.prog 75 := callable_of Tryd.func75 rfl (by kernel_rfl)
@[simp] theorem nt76 : Tryd.f76.ntmps = 11 := rfl
@[simp] theorem re76 : Tryd.f76.results.toList = [.tmp 4, .tmp 5] := rfl
theorem call76 : Callable Tryd.prog 76 := callable_of Tryd.func76 rfl (by kernel_rfl)
@[simp] theorem nt78 : Tryd.f78.ntmps = 10 := rfl
@[simp] theorem re78 : Tryd.f78.results.toList = [.cell 4 27] := rfl
theorem call78 : Callable Tryd.prog 78 := callable_of Tryd.func78 rfl (by kernel_rfl)
@[simp] theorem nt79 : Tryd.f79.ntmps = 14 := rfl
@[simp] theorem re79 : Tryd.f79.results.toList = [.cell 4 110] := rfl
theorem call79 : Callable Tryd.prog 79 := callable_of Tryd.func79 rfl (by kernel_rfl)
@[simp] theorem nt80 : Tryd.f80.ntmps = 17 := rfl
@[simp] theorem re80 : Tryd.f80.results.toList = [.tmp 2] := rfl
theorem call80 : Callable Tryd.prog 80 := callable_of Tryd.func80 rfl (by kernel_rfl)
@[simp] theorem nt81 : Tryd.f81.ntmps = 11 := rfl
@[simp] theorem re81 : Tryd.f81.results.toList = [] := rfl
theorem call81 : Callable Tryd.prog 81 := callable_of Tryd.func81 rfl (by kernel_rfl)
@[simp] theorem nt82 : Tryd.f82.ntmps = 8 := rfl
@[simp] theorem re82 : Tryd.f82.results.toList = [.tmp 2] := rfl
theorem call82 : Callable Tryd.prog 82 := callable_of Tryd.func82 rfl (by kernel_rfl)
@[simp] theorem nt83 : Tryd.f83.ntmps = 14 := rfl
@[simp] theorem re83 : Tryd.f83.results.toList = [] := rfl
theorem call83 : Callable Tryd.prog 83 := callable_of Tryd.func83 rfl (by kernel_rfl)
@[simp] theorem nt84 : Tryd.f84.ntmps = 17 := rfl
@[simp] theorem re84 : Tryd.f84.results.toList = [.tmp 4] := rfl
theorem call84 : Callable Tryd.prog 84 := callable_of Tryd.func84 rfl (by kernel_rfl)
@[simp] theorem nt85 : Tryd.f85.ntmps = 66 := rfl
@[simp] theorem re85 : Tryd.f85.results.toList = [.tmp 4] := rfl
theorem call85 : Callable Tryd.prog 85 := callable_of Tryd.func85 rfl (by kernel_rfl)
@[simp] theorem nt86 : Tryd.f86.ntmps = 9 := rfl
@[simp] theorem re86 : Tryd.f86.results.toList = [.tmp 4] := rfl
theorem call86 : Callable Tryd.prog 86 := callable_of Tryd.func86 rfl (by kernel_rfl)
@[simp] theorem nt87 : Tryd.f87.ntmps = 49 := rfl
@[simp] theorem re87 : Tryd.f87.results.toList = [.tmp 6, .tmp 7] := rfl
theorem call87 : Callable Tryd.prog 87 := callable_of Tryd.func87 rfl (by kernel_rfl)
@[simp] theorem nt88 : Tryd.f88.ntmps = 15 := rfl
@[simp] theorem re88 : Tryd.f88.results.toList = [.tmp 4, .tmp 5] := rfl
theorem call88 : Callable Tryd.prog 88 := callable_of Tryd.func88 rfl (by kernel_rfl)
@[simp] theorem nt89 : Tryd.f89.ntmps = 8 := rfl
@[simp] theorem re89 : Tryd.f89.results.toList = [.tmp 2] := rfl
theorem call89 : Callable Tryd.prog 89 := callable_of Tryd.func89 rfl (by kernel_rfl)
@[simp] theorem nt90 : Tryd.f90.ntmps = 8 := rfl
@[simp] theorem re90 : Tryd.f90.results.toList = [.tmp 2] := rfl
theorem call90 : Callable Tryd.prog 90 := callable_of Tryd.func90 rfl (by kernel_rfl)
@[simp] theorem nt91 : Tryd.f91.ntmps = 134 := rfl
@[simp] theorem re91 : Tryd.f91.results.toList = [] := rfl
theorem call91 : Callable Tryd.prog 91 := callable_of Tryd.func91 rfl (by kernel_rfl)
@[simp] theorem nt92 : Tryd.f92.ntmps = 8 := rfl
@[simp] theorem re92 : Tryd.f92.results.toList = [.tmp 2] := rfl
theorem call92 : Callable Tryd.prog 92 := callable_of Tryd.func92 rfl (by kernel_rfl)
@[simp] theorem nt93 : Tryd.f93.ntmps = 148 := rfl
@[simp] theorem re93 : Tryd.f93.results.toList = [] := rfl
theorem call93 : Callable Tryd.prog 93 := callable_of Tryd.func93 rfl (by kernel_rfl)
@[simp] theorem nt94 : Tryd.f94.ntmps = 18 := rfl
@[simp] theorem re94 : Tryd.f94.results.toList = [.tmp 2] := rfl
theorem call94 : Callable Tryd.prog 94 := callable_of Tryd.func94 rfl (by kernel_rfl)
@[simp] theorem nt95 : Tryd.f95.ntmps = 20 := rfl
@[simp] theorem re95 : Tryd.f95.results.toList = [.tmp 4] := rfl
theorem call95 : Callable Tryd.prog 95 := callable_of Tryd.func95 rfl (by kernel_rfl)
@[simp] theorem nt96 : Tryd.f96.ntmps = 36 := rfl
@[simp] theorem re96 : Tryd.f96.results.toList = [.tmp 4] := rfl
theorem call96 : Callable Tryd.prog 96 := callable_of Tryd.func96 rfl (by kernel_rfl)
@[simp] theorem nt97 : Tryd.f97.ntmps = 18 := rfl
@[simp] theorem re97 : Tryd.f97.results.toList = [.tmp 4] := rfl
theorem call97 : Callable Tryd.prog 97 := callable_of Tryd.func97 rfl (by kernel_rfl)
@[simp] theorem nt99 : Tryd.f99.ntmps = 14 := rfl
@[simp] theorem re99 : Tryd.f99.results.toList = [.tmp 2] := rfl
theorem call99 : Callable Tryd.prog 99 := callable_of Tryd.func99 rfl (by kernel_rfl)
@[simp] theorem nt100 : Tryd.f100.ntmps = 49 := rfl
@[simp] theorem re100 : Tryd.f100.results.toList = [] := rfl
theorem call100 : Callable Tryd.prog 100 := callable_of Tryd.func100 rfl (by kernel_rfl)
@[simp] theorem nt106 : Tryd.f106.ntmps = 17 := rfl
@[simp] theorem re106 : Tryd.f106.results.toList = [.tmp 4] := rfl
theorem call106 : Callable Tryd.prog 106 := callable_of Tryd.func106 rfl (by kernel_rfl)
@[simp] theorem nt109 : Tryd.f109.ntmps = 19 := rfl
@[simp] theorem re109 : Tryd.f109.results.toList = [.tmp 2] := rfl
theorem call109 : Callable Tryd.prog 109 := callable_of Tryd.func109 rfl (by kernel_rfl)
@[simp] theorem nt110 : Tryd.f110.ntmps = 25 := rfl
@[simp] theorem re110 : Tryd.f110.results.toList = [.tmp 2] := rfl
theorem call110 : Callable Tryd.prog 110 := callable_of Tryd.func110 rfl (by kernel_rfl)
@[simp] theorem nt111 : Tryd.f111.ntmps = 53 := rfl
@[simp] theorem re111 : Tryd.f111.results.toList = [] := rfl
theorem call111 : Callable Tryd.prog 111 := callable_of Tryd.func111 rfl (by kernel_rfl)
@[simp] theorem nt119 : Tryd.f119.ntmps = 6 := rfl
@[simp] theorem re119 : Tryd.f119.results.toList = [.tmp 2] := rfl
theorem call119 : Callable Tryd.prog 119 := callable_of Tryd.func119 rfl (by kernel_rfl)
end Go.Proofs.YtnikonhkbldnnaaDoor
