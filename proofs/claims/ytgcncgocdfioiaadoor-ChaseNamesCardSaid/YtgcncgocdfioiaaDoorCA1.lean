import Derived.Test.YtgcncgocdfioiaaDoorProg
import Derived.Test.YtgcncgocdfioiaaDoorPSC
import Derived.KernelRfl
set_option linter.unusedVariables false
set_option linter.unusedSimpArgs false
set_option maxRecDepth 20000
namespace Go.Proofs.YtgcncgocdfioiaaDoor
open Go Go.PS
theorem mixed : Tryd.prog.follows .mixedOrders = true := by kernel_rfl

@[simp] theorem f_sz1 : szT Tryd.prog 1 = some 1 := by kernel_rfl
@[simp] theorem f_ag1 : aggT Tryd.prog 1 = some false := by kernel_rfl
@[simp] theorem f_ib1 : isBoolT Tryd.prog 1 = false := by kernel_rfl
@[simp] theorem f_is1 : isSlT Tryd.prog 1 = false := by kernel_rfl
@[simp] theorem f_by1 : byT Tryd.prog 1 = some 8 := by kernel_rfl
@[simp] theorem f_z1 : zT Tryd.prog 1 = some [.nilFunc] := by kernel_rfl
@[simp] theorem f_sz2 : szT Tryd.prog 2 = some 1 := by kernel_rfl
@[simp] theorem f_ag2 : aggT Tryd.prog 2 = some false := by kernel_rfl
@[simp] theorem f_ib2 : isBoolT Tryd.prog 2 = false := by kernel_rfl
@[simp] theorem f_is2 : isSlT Tryd.prog 2 = false := by kernel_rfl
@[simp] theorem f_by2 : byT Tryd.prog 2 = some 8 := by kernel_rfl
@[simp] theorem f_z2 : zT Tryd.prog 2 = some [.int .i64 0] := by kernel_rfl
@[simp] theorem f_sz3 : szT Tryd.prog 3 = some 1 := by kernel_rfl
@[simp] theorem f_ag3 : aggT Tryd.prog 3 = some false := by kernel_rfl
@[simp] theorem f_ib3 : isBoolT Tryd.prog 3 = false := by kernel_rfl
@[simp] theorem f_is3 : isSlT Tryd.prog 3 = false := by kernel_rfl
@[simp] theorem f_by3 : byT Tryd.prog 3 = some 8 := by kernel_rfl
@[simp] theorem f_z3 : zT Tryd.prog 3 = some [.int .i64 0] := by kernel_rfl
@[simp] theorem f_sz4 : szT Tryd.prog 4 = some 1 := by kernel_rfl
@[simp] theorem f_ag4 : aggT Tryd.prog 4 = some false := by kernel_rfl
@[simp] theorem f_ib4 : isBoolT Tryd.prog 4 = true := by kernel_rfl
@[simp] theorem f_is4 : isSlT Tryd.prog 4 = false := by kernel_rfl
@[simp] theorem f_by4 : byT Tryd.prog 4 = some 1 := by kernel_rfl
@[simp] theorem f_z4 : zT Tryd.prog 4 = some [.bool false] := by kernel_rfl
@[simp] theorem f_sz5 : szT Tryd.prog 5 = some 1 := by kernel_rfl
@[simp] theorem f_ag5 : aggT Tryd.prog 5 = some false := by kernel_rfl
@[simp] theorem f_ib5 : isBoolT Tryd.prog 5 = false := by kernel_rfl
@[simp] theorem f_is5 : isSlT Tryd.prog 5 = false := by kernel_rfl
@[simp] theorem f_by5 : byT Tryd.prog 5 = some 1 := by kernel_rfl
@[simp] theorem f_z5 : zT Tryd.prog 5 = some [.int .u8 0] := by kernel_rfl
@[simp] theorem f_sz6 : szT Tryd.prog 6 = some 1 := by kernel_rfl
@[simp] theorem f_ag6 : aggT Tryd.prog 6 = some false := by kernel_rfl
@[simp] theorem f_ib6 : isBoolT Tryd.prog 6 = false := by kernel_rfl
@[simp] theorem f_is6 : isSlT Tryd.prog 6 = false := by kernel_rfl
@[simp] theorem f_by6 : byT Tryd.prog 6 = some 1 := by kernel_rfl
@[simp] theorem f_z6 : zT Tryd.prog 6 = some [.int .u8 0] := by kernel_rfl
@[simp] theorem f_sz7 : szT Tryd.prog 7 = some 4 := by kernel_rfl
@[simp] theorem f_ag7 : aggT Tryd.prog 7 = some true := by kernel_rfl
@[simp] theorem f_ib7 : isBoolT Tryd.prog 7 = false := by kernel_rfl
@[simp] theorem f_is7 : isSlT Tryd.prog 7 = false := by kernel_rfl
@[simp] theorem f_by7 : byT Tryd.prog 7 = some 24 := by kernel_rfl
@[simp] theorem f_z7 : zT Tryd.prog 7 = some [.int .i64 0, .int .i64 0, .bool false, .int .u8 0] := by kernel_rfl
@[simp] theorem f_ok7 : fldsOk Tryd.prog 7 = true := by kernel_rfl
@[simp] theorem f_fld7_0 : fldT Tryd.prog 7 0 = some (0, 1) := by kernel_rfl
@[simp] theorem f_fldA7_0 : fldA Tryd.prog 7 0 = some false := by kernel_rfl
@[simp] theorem f_pl7_0 : placeT Tryd.prog 7 0 = some (0, 1) := by kernel_rfl
@[simp] theorem f_fld7_1 : fldT Tryd.prog 7 1 = some (1, 1) := by kernel_rfl
@[simp] theorem f_fldA7_1 : fldA Tryd.prog 7 1 = some false := by kernel_rfl
@[simp] theorem f_pl7_1 : placeT Tryd.prog 7 1 = some (1, 1) := by kernel_rfl
@[simp] theorem f_fld7_2 : fldT Tryd.prog 7 2 = some (2, 1) := by kernel_rfl
@[simp] theorem f_fldA7_2 : fldA Tryd.prog 7 2 = some false := by kernel_rfl
@[simp] theorem f_pl7_2 : placeT Tryd.prog 7 2 = some (2, 1) := by kernel_rfl
@[simp] theorem f_fld7_3 : fldT Tryd.prog 7 3 = some (3, 1) := by kernel_rfl
@[simp] theorem f_fldA7_3 : fldA Tryd.prog 7 3 = some false := by kernel_rfl
@[simp] theorem f_pl7_3 : placeT Tryd.prog 7 3 = some (3, 1) := by kernel_rfl
@[simp] theorem f_sz8 : szT Tryd.prog 8 = some 4 := by kernel_rfl
@[simp] theorem f_ag8 : aggT Tryd.prog 8 = some true := by kernel_rfl
@[simp] theorem f_ib8 : isBoolT Tryd.prog 8 = false := by kernel_rfl
@[simp] theorem f_is8 : isSlT Tryd.prog 8 = false := by kernel_rfl
@[simp] theorem f_by8 : byT Tryd.prog 8 = some 24 := by kernel_rfl
@[simp] theorem f_z8 : zT Tryd.prog 8 = some [.int .i64 0, .int .i64 0, .bool false, .int .u8 0] := by kernel_rfl
@[simp] theorem f_ok8 : fldsOk Tryd.prog 8 = true := by kernel_rfl
@[simp] theorem f_fld8_0 : fldT Tryd.prog 8 0 = some (0, 1) := by kernel_rfl
@[simp] theorem f_fldA8_0 : fldA Tryd.prog 8 0 = some false := by kernel_rfl
@[simp] theorem f_pl8_0 : placeT Tryd.prog 8 0 = some (0, 1) := by kernel_rfl
@[simp] theorem f_fld8_1 : fldT Tryd.prog 8 1 = some (1, 1) := by kernel_rfl
@[simp] theorem f_fldA8_1 : fldA Tryd.prog 8 1 = some false := by kernel_rfl
@[simp] theorem f_pl8_1 : placeT Tryd.prog 8 1 = some (1, 1) := by kernel_rfl
@[simp] theorem f_fld8_2 : fldT Tryd.prog 8 2 = some (2, 1) := by kernel_rfl
@[simp] theorem f_fldA8_2 : fldA Tryd.prog 8 2 = some false := by kernel_rfl
@[simp] theorem f_pl8_2 : placeT Tryd.prog 8 2 = some (2, 1) := by kernel_rfl
@[simp] theorem f_fld8_3 : fldT Tryd.prog 8 3 = some (3, 1) := by kernel_rfl
@[simp] theorem f_fldA8_3 : fldA Tryd.prog 8 3 = some false := by kernel_rfl
@[simp] theorem f_pl8_3 : placeT Tryd.prog 8 3 = some (3, 1) := by kernel_rfl
@[simp] theorem f_sz9 : szT Tryd.prog 9 = some 1 := by kernel_rfl
@[simp] theorem f_ag9 : aggT Tryd.prog 9 = some false := by kernel_rfl
@[simp] theorem f_ib9 : isBoolT Tryd.prog 9 = false := by kernel_rfl
@[simp] theorem f_is9 : isSlT Tryd.prog 9 = false := by kernel_rfl
@[simp] theorem f_sz10 : szT Tryd.prog 10 = some 1 := by kernel_rfl
@[simp] theorem f_ag10 : aggT Tryd.prog 10 = some false := by kernel_rfl
@[simp] theorem f_ib10 : isBoolT Tryd.prog 10 = false := by kernel_rfl
@[simp] theorem f_is10 : isSlT Tryd.prog 10 = false := by kernel_rfl
@[simp] theorem f_sz11 : szT Tryd.prog 11 = some 1 := by kernel_rfl
@[simp] theorem f_ag11 : aggT Tryd.prog 11 = some false := by kernel_rfl
@[simp] theorem f_ib11 : isBoolT Tryd.prog 11 = false := by kernel_rfl
@[simp] theorem f_is11 : isSlT Tryd.prog 11 = false := by kernel_rfl
@[simp] theorem f_sz12 : szT Tryd.prog 12 = some 1 := by kernel_rfl
@[simp] theorem f_ag12 : aggT Tryd.prog 12 = some false := by kernel_rfl
@[simp] theorem f_ib12 : isBoolT Tryd.prog 12 = false := by kernel_rfl
@[simp] theorem f_is12 : isSlT Tryd.prog 12 = false := by kernel_rfl
@[simp] theorem f_by12 : byT Tryd.prog 12 = some 8 := by kernel_rfl
@[simp] theorem f_z12 : zT Tryd.prog 12 = some [.int .u64 0] := by kernel_rfl
@[simp] theorem f_sz13 : szT Tryd.prog 13 = some 2 := by kernel_rfl
@[simp] theorem f_ag13 : aggT Tryd.prog 13 = some true := by kernel_rfl
@[simp] theorem f_ib13 : isBoolT Tryd.prog 13 = false := by kernel_rfl
@[simp] theorem f_is13 : isSlT Tryd.prog 13 = false := by kernel_rfl
@[simp] theorem f_sz14 : szT Tryd.prog 14 = some 2 := by kernel_rfl
@[simp] theorem f_ag14 : aggT Tryd.prog 14 = some true := by kernel_rfl
@[simp] theorem f_ib14 : isBoolT Tryd.prog 14 = false := by kernel_rfl
@[simp] theorem f_is14 : isSlT Tryd.prog 14 = false := by kernel_rfl
@[simp] theorem f_sz15 : szT Tryd.prog 15 = some 1 := by kernel_rfl
@[simp] theorem f_ag15 : aggT Tryd.prog 15 = some false := by kernel_rfl
@[simp] theorem f_ib15 : isBoolT Tryd.prog 15 = false := by kernel_rfl
@[simp] theorem f_is15 : isSlT Tryd.prog 15 = false := by kernel_rfl
@[simp] theorem f_by15 : byT Tryd.prog 15 = some 8 := by kernel_rfl
@[simp] theorem f_z15 : zT Tryd.prog 15 = some [.pointer none] := by kernel_rfl
@[simp] theorem f_sz16 : szT Tryd.prog 16 = some 1 := by kernel_rfl
@[simp] theorem f_ag16 : aggT Tryd.prog 16 = some false := by kernel_rfl
@[simp] theorem f_ib16 : isBoolT Tryd.prog 16 = false := by kernel_rfl
@[simp] theorem f_is16 : isSlT Tryd.prog 16 = false := by kernel_rfl
@[simp] theorem f_by16 : byT Tryd.prog 16 = some 8 := by kernel_rfl
@[simp] theorem f_z16 : zT Tryd.prog 16 = some [.pointer none] := by kernel_rfl
@[simp] theorem f_sz17 : szT Tryd.prog 17 = some 1 := by kernel_rfl
@[simp] theorem f_ag17 : aggT Tryd.prog 17 = some false := by kernel_rfl
@[simp] theorem f_ib17 : isBoolT Tryd.prog 17 = false := by kernel_rfl
@[simp] theorem f_is17 : isSlT Tryd.prog 17 = false := by kernel_rfl
@[simp] theorem f_by17 : byT Tryd.prog 17 = some 8 := by kernel_rfl
@[simp] theorem f_z17 : zT Tryd.prog 17 = some [.pointer none] := by kernel_rfl
@[simp] theorem f_sz18 : szT Tryd.prog 18 = some 1 := by kernel_rfl
@[simp] theorem f_ag18 : aggT Tryd.prog 18 = some true := by kernel_rfl
@[simp] theorem f_ib18 : isBoolT Tryd.prog 18 = false := by kernel_rfl
@[simp] theorem f_is18 : isSlT Tryd.prog 18 = false := by kernel_rfl
@[simp] theorem f_by18 : byT Tryd.prog 18 = some 8 := by kernel_rfl
@[simp] theorem f_z18 : zT Tryd.prog 18 = some [.pointer none] := by kernel_rfl
@[simp] theorem f_ok18 : fldsOk Tryd.prog 18 = true := by kernel_rfl
@[simp] theorem f_fld18_0 : fldT Tryd.prog 18 0 = some (0, 1) := by kernel_rfl
@[simp] theorem f_fldA18_0 : fldA Tryd.prog 18 0 = some false := by kernel_rfl
@[simp] theorem f_pl18_0 : placeT Tryd.prog 18 0 = some (0, 1) := by kernel_rfl
@[simp] theorem f_sz19 : szT Tryd.prog 19 = some 1 := by kernel_rfl
@[simp] theorem f_ag19 : aggT Tryd.prog 19 = some true := by kernel_rfl
@[simp] theorem f_ib19 : isBoolT Tryd.prog 19 = false := by kernel_rfl
@[simp] theorem f_is19 : isSlT Tryd.prog 19 = false := by kernel_rfl
@[simp] theorem f_by19 : byT Tryd.prog 19 = some 8 := by kernel_rfl
@[simp] theorem f_z19 : zT Tryd.prog 19 = some [.pointer none] := by kernel_rfl
@[simp] theorem f_ok19 : fldsOk Tryd.prog 19 = true := by kernel_rfl
@[simp] theorem f_fld19_0 : fldT Tryd.prog 19 0 = some (0, 1) := by kernel_rfl
@[simp] theorem f_fldA19_0 : fldA Tryd.prog 19 0 = some false := by kernel_rfl
@[simp] theorem f_pl19_0 : placeT Tryd.prog 19 0 = some (0, 1) := by kernel_rfl
@[simp] theorem f_sz21 : szT Tryd.prog 21 = some 1 := by kernel_rfl
@[simp] theorem f_ag21 : aggT Tryd.prog 21 = some false := by kernel_rfl
@[simp] theorem f_ib21 : isBoolT Tryd.prog 21 = false := by kernel_rfl
@[simp] theorem f_is21 : isSlT Tryd.prog 21 = false := by kernel_rfl
@[simp] theorem f_by21 : byT Tryd.prog 21 = some 4 := by kernel_rfl
@[simp] theorem f_z21 : zT Tryd.prog 21 = some [.int .i32 0] := by kernel_rfl
@[simp] theorem f_sz22 : szT Tryd.prog 22 = some 1 := by kernel_rfl
@[simp] theorem f_ag22 : aggT Tryd.prog 22 = some false := by kernel_rfl
@[simp] theorem f_ib22 : isBoolT Tryd.prog 22 = false := by kernel_rfl
@[simp] theorem f_is22 : isSlT Tryd.prog 22 = true := by kernel_rfl
@[simp] theorem f_by22 : byT Tryd.prog 22 = some 24 := by kernel_rfl
@[simp] theorem f_z22 : zT Tryd.prog 22 = some [.slice none 0 0] := by kernel_rfl
@[simp] theorem f_sl22 : slT Tryd.prog 22 = some 1 := by kernel_rfl
@[simp] theorem f_el22 : elT Tryd.prog 22 = some 3 := by kernel_rfl
@[simp] theorem f_sz23 : szT Tryd.prog 23 = some 1 := by kernel_rfl
@[simp] theorem f_ag23 : aggT Tryd.prog 23 = some false := by kernel_rfl
@[simp] theorem f_ib23 : isBoolT Tryd.prog 23 = false := by kernel_rfl
@[simp] theorem f_is23 : isSlT Tryd.prog 23 = true := by kernel_rfl
@[simp] theorem f_by23 : byT Tryd.prog 23 = some 24 := by kernel_rfl
@[simp] theorem f_z23 : zT Tryd.prog 23 = some [.slice none 0 0] := by kernel_rfl
@[simp] theorem f_sl23 : slT Tryd.prog 23 = some 1 := by kernel_rfl
@[simp] theorem f_el23 : elT Tryd.prog 23 = some 3 := by kernel_rfl
@[simp] theorem f_sz24 : szT Tryd.prog 24 = some 1 := by kernel_rfl
@[simp] theorem f_ag24 : aggT Tryd.prog 24 = some false := by kernel_rfl
@[simp] theorem f_ib24 : isBoolT Tryd.prog 24 = false := by kernel_rfl
@[simp] theorem f_is24 : isSlT Tryd.prog 24 = false := by kernel_rfl
@[simp] theorem f_by24 : byT Tryd.prog 24 = some 8 := by kernel_rfl
@[simp] theorem f_z24 : zT Tryd.prog 24 = some [.int .i64 0] := by kernel_rfl
@[simp] theorem f_sz26 : szT Tryd.prog 26 = some 1 := by kernel_rfl
@[simp] theorem f_ag26 : aggT Tryd.prog 26 = some false := by kernel_rfl
@[simp] theorem f_ib26 : isBoolT Tryd.prog 26 = false := by kernel_rfl
@[simp] theorem f_is26 : isSlT Tryd.prog 26 = false := by kernel_rfl
@[simp] theorem f_by26 : byT Tryd.prog 26 = some 8 := by kernel_rfl
@[simp] theorem f_z26 : zT Tryd.prog 26 = some [.nilFunc] := by kernel_rfl
@[simp] theorem f_sz27 : szT Tryd.prog 27 = some 1 := by kernel_rfl
@[simp] theorem f_ag27 : aggT Tryd.prog 27 = some false := by kernel_rfl
@[simp] theorem f_ib27 : isBoolT Tryd.prog 27 = false := by kernel_rfl
@[simp] theorem f_is27 : isSlT Tryd.prog 27 = false := by kernel_rfl
@[simp] theorem f_by27 : byT Tryd.prog 27 = some 8 := by kernel_rfl
@[simp] theorem f_z27 : zT Tryd.prog 27 = some [.nilFunc] := by kernel_rfl
@[simp] theorem f_sz28 : szT Tryd.prog 28 = some 1 := by kernel_rfl
@[simp] theorem f_ag28 : aggT Tryd.prog 28 = some false := by kernel_rfl
@[simp] theorem f_ib28 : isBoolT Tryd.prog 28 = false := by kernel_rfl
@[simp] theorem f_is28 : isSlT Tryd.prog 28 = false := by kernel_rfl
@[simp] theorem f_by28 : byT Tryd.prog 28 = some 8 := by kernel_rfl
@[simp] theorem f_z28 : zT Tryd.prog 28 = some [.nilFunc] := by kernel_rfl
@[simp] theorem f_sz29 : szT Tryd.prog 29 = some 1 := by kernel_rfl
@[simp] theorem f_ag29 : aggT Tryd.prog 29 = some false := by kernel_rfl
@[simp] theorem f_ib29 : isBoolT Tryd.prog 29 = false := by kernel_rfl
@[simp] theorem f_is29 : isSlT Tryd.prog 29 = false := by kernel_rfl
@[simp] theorem f_by29 : byT Tryd.prog 29 = some 8 := by kernel_rfl
@[simp] theorem f_z29 : zT Tryd.prog 29 = some [.nilFunc] := by kernel_rfl
@[simp] theorem f_sz30 : szT Tryd.prog 30 = some 2 := by kernel_rfl
@[simp] theorem f_ag30 : aggT Tryd.prog 30 = some true := by kernel_rfl
@[simp] theorem f_ib30 : isBoolT Tryd.prog 30 = false := by kernel_rfl
@[simp] theorem f_is30 : isSlT Tryd.prog 30 = false := by kernel_rfl
@[simp] theorem f_by30 : byT Tryd.prog 30 = some 16 := by kernel_rfl
@[simp] theorem f_z30 : zT Tryd.prog 30 = some [.int .i64 0, .int .i64 0] := by kernel_rfl
@[simp] theorem f_ar30 : arT Tryd.prog 30 = some (2, 1) := by kernel_rfl
@[simp] theorem f_arA30 : arA Tryd.prog 30 = some false := by kernel_rfl
@[simp] theorem f_ok30 : fldsOk Tryd.prog 30 = true := by kernel_rfl
@[simp] theorem f_pl30_0 : placeT Tryd.prog 30 0 = some (0, 1) := by kernel_rfl
@[simp] theorem f_pl30_1 : placeT Tryd.prog 30 1 = some (1, 1) := by kernel_rfl
@[simp] theorem f_sz32 : szT Tryd.prog 32 = some 1 := by kernel_rfl
@[simp] theorem f_ag32 : aggT Tryd.prog 32 = some false := by kernel_rfl
@[simp] theorem f_ib32 : isBoolT Tryd.prog 32 = false := by kernel_rfl
@[simp] theorem f_is32 : isSlT Tryd.prog 32 = false := by kernel_rfl
@[simp] theorem f_by32 : byT Tryd.prog 32 = some 8 := by kernel_rfl
@[simp] theorem f_z32 : zT Tryd.prog 32 = some [.nilFunc] := by kernel_rfl
@[simp] theorem f_sz34 : szT Tryd.prog 34 = some 1 := by kernel_rfl
@[simp] theorem f_ag34 : aggT Tryd.prog 34 = some false := by kernel_rfl
@[simp] theorem f_ib34 : isBoolT Tryd.prog 34 = false := by kernel_rfl
@[simp] theorem f_is34 : isSlT Tryd.prog 34 = false := by kernel_rfl
@[simp] theorem f_by34 : byT Tryd.prog 34 = some 8 := by kernel_rfl
@[simp] theorem f_z34 : zT Tryd.prog 34 = some [.nilFunc] := by kernel_rfl
@[simp] theorem f_sz35 : szT Tryd.prog 35 = some 1 := by kernel_rfl
@[simp] theorem f_ag35 : aggT Tryd.prog 35 = some false := by kernel_rfl
@[simp] theorem f_ib35 : isBoolT Tryd.prog 35 = false := by kernel_rfl
@[simp] theorem f_is35 : isSlT Tryd.prog 35 = false := by kernel_rfl
@[simp] theorem f_by35 : byT Tryd.prog 35 = some 8 := by kernel_rfl
@[simp] theorem f_z35 : zT Tryd.prog 35 = some [.nilFunc] := by kernel_rfl
@[simp] theorem f_sz36 : szT Tryd.prog 36 = some 1 := by kernel_rfl
@[simp] theorem f_ag36 : aggT Tryd.prog 36 = some false := by kernel_rfl
@[simp] theorem f_ib36 : isBoolT Tryd.prog 36 = false := by kernel_rfl
@[simp] theorem f_is36 : isSlT Tryd.prog 36 = true := by kernel_rfl
@[simp] theorem f_by36 : byT Tryd.prog 36 = some 24 := by kernel_rfl
@[simp] theorem f_z36 : zT Tryd.prog 36 = some [.slice none 0 0] := by kernel_rfl
@[simp] theorem f_sl36 : slT Tryd.prog 36 = some 2 := by kernel_rfl
@[simp] theorem f_el36 : elT Tryd.prog 36 = some 30 := by kernel_rfl
@[simp] theorem f_sz38 : szT Tryd.prog 38 = some 1 := by kernel_rfl
@[simp] theorem f_ag38 : aggT Tryd.prog 38 = some false := by kernel_rfl
@[simp] theorem f_ib38 : isBoolT Tryd.prog 38 = false := by kernel_rfl
@[simp] theorem f_is38 : isSlT Tryd.prog 38 = false := by kernel_rfl
@[simp] theorem f_by38 : byT Tryd.prog 38 = some 8 := by kernel_rfl
@[simp] theorem f_z38 : zT Tryd.prog 38 = some [.nilFunc] := by kernel_rfl
@[simp] theorem f_sz39 : szT Tryd.prog 39 = some 1 := by kernel_rfl
@[simp] theorem f_ag39 : aggT Tryd.prog 39 = some false := by kernel_rfl
@[simp] theorem f_ib39 : isBoolT Tryd.prog 39 = false := by kernel_rfl
@[simp] theorem f_is39 : isSlT Tryd.prog 39 = false := by kernel_rfl
@[simp] theorem f_by39 : byT Tryd.prog 39 = some 8 := by kernel_rfl
@[simp] theorem f_z39 : zT Tryd.prog 39 = some [.int .u64 0] := by kernel_rfl
@[simp] theorem f_sz40 : szT Tryd.prog 40 = some 1 := by kernel_rfl
@[simp] theorem f_ag40 : aggT Tryd.prog 40 = some false := by kernel_rfl
@[simp] theorem f_ib40 : isBoolT Tryd.prog 40 = false := by kernel_rfl
@[simp] theorem f_is40 : isSlT Tryd.prog 40 = false := by kernel_rfl
@[simp] theorem f_by40 : byT Tryd.prog 40 = some 8 := by kernel_rfl
@[simp] theorem f_z40 : zT Tryd.prog 40 = some [.nilFunc] := by kernel_rfl
@[simp] theorem f_sz41 : szT Tryd.prog 41 = some 1 := by kernel_rfl
@[simp] theorem f_ag41 : aggT Tryd.prog 41 = some false := by kernel_rfl
@[simp] theorem f_ib41 : isBoolT Tryd.prog 41 = false := by kernel_rfl
@[simp] theorem f_is41 : isSlT Tryd.prog 41 = true := by kernel_rfl
@[simp] theorem f_by41 : byT Tryd.prog 41 = some 24 := by kernel_rfl
@[simp] theorem f_z41 : zT Tryd.prog 41 = some [.slice none 0 0] := by kernel_rfl
@[simp] theorem f_sl41 : slT Tryd.prog 41 = some 3 := by kernel_rfl
@[simp] theorem f_el41 : elT Tryd.prog 41 = some 50 := by kernel_rfl
@[simp] theorem f_sz43 : szT Tryd.prog 43 = some 1 := by kernel_rfl
@[simp] theorem f_ag43 : aggT Tryd.prog 43 = some false := by kernel_rfl
@[simp] theorem f_ib43 : isBoolT Tryd.prog 43 = false := by kernel_rfl
@[simp] theorem f_is43 : isSlT Tryd.prog 43 = false := by kernel_rfl
@[simp] theorem f_by43 : byT Tryd.prog 43 = some 8 := by kernel_rfl
@[simp] theorem f_z43 : zT Tryd.prog 43 = some [.nilFunc] := by kernel_rfl
@[simp] theorem f_sz44 : szT Tryd.prog 44 = some 1 := by kernel_rfl
@[simp] theorem f_ag44 : aggT Tryd.prog 44 = some false := by kernel_rfl
@[simp] theorem f_ib44 : isBoolT Tryd.prog 44 = false := by kernel_rfl
@[simp] theorem f_is44 : isSlT Tryd.prog 44 = false := by kernel_rfl
@[simp] theorem f_by44 : byT Tryd.prog 44 = some 8 := by kernel_rfl
@[simp] theorem f_z44 : zT Tryd.prog 44 = some [.nilFunc] := by kernel_rfl
@[simp] theorem f_sz45 : szT Tryd.prog 45 = some 1 := by kernel_rfl
@[simp] theorem f_ag45 : aggT Tryd.prog 45 = some false := by kernel_rfl
@[simp] theorem f_ib45 : isBoolT Tryd.prog 45 = false := by kernel_rfl
@[simp] theorem f_is45 : isSlT Tryd.prog 45 = true := by kernel_rfl
@[simp] theorem f_by45 : byT Tryd.prog 45 = some 24 := by kernel_rfl
@[simp] theorem f_z45 : zT Tryd.prog 45 = some [.slice none 0 0] := by kernel_rfl
@[simp] theorem f_sl45 : slT Tryd.prog 45 = some 3 := by kernel_rfl
@[simp] theorem f_el45 : elT Tryd.prog 45 = some 48 := by kernel_rfl
@[simp] theorem f_sz46 : szT Tryd.prog 46 = some 1 := by kernel_rfl
@[simp] theorem f_ag46 : aggT Tryd.prog 46 = some false := by kernel_rfl
@[simp] theorem f_ib46 : isBoolT Tryd.prog 46 = false := by kernel_rfl
@[simp] theorem f_is46 : isSlT Tryd.prog 46 = false := by kernel_rfl
@[simp] theorem f_by46 : byT Tryd.prog 46 = some 8 := by kernel_rfl
@[simp] theorem f_z46 : zT Tryd.prog 46 = some [.nilFunc] := by kernel_rfl
@[simp] theorem f_sz47 : szT Tryd.prog 47 = some 3 := by kernel_rfl
@[simp] theorem f_ag47 : aggT Tryd.prog 47 = some true := by kernel_rfl
@[simp] theorem f_ib47 : isBoolT Tryd.prog 47 = false := by kernel_rfl
@[simp] theorem f_is47 : isSlT Tryd.prog 47 = false := by kernel_rfl
@[simp] theorem f_by47 : byT Tryd.prog 47 = some 24 := by kernel_rfl
@[simp] theorem f_z47 : zT Tryd.prog 47 = some [.int .i64 0, .int .i64 0, .int .i64 0] := by kernel_rfl
@[simp] theorem f_ok47 : fldsOk Tryd.prog 47 = true := by kernel_rfl
@[simp] theorem f_fld47_0 : fldT Tryd.prog 47 0 = some (0, 1) := by kernel_rfl
@[simp] theorem f_fldA47_0 : fldA Tryd.prog 47 0 = some false := by kernel_rfl
@[simp] theorem f_pl47_0 : placeT Tryd.prog 47 0 = some (0, 1) := by kernel_rfl
@[simp] theorem f_fld47_1 : fldT Tryd.prog 47 1 = some (1, 1) := by kernel_rfl
@[simp] theorem f_fldA47_1 : fldA Tryd.prog 47 1 = some false := by kernel_rfl
@[simp] theorem f_pl47_1 : placeT Tryd.prog 47 1 = some (1, 1) := by kernel_rfl
@[simp] theorem f_fld47_2 : fldT Tryd.prog 47 2 = some (2, 1) := by kernel_rfl
@[simp] theorem f_fldA47_2 : fldA Tryd.prog 47 2 = some false := by kernel_rfl
@[simp] theorem f_pl47_2 : placeT Tryd.prog 47 2 = some (2, 1) := by kernel_rfl
@[simp] theorem f_sz48 : szT Tryd.prog 48 = some 3 := by kernel_rfl
@[simp] theorem f_ag48 : aggT Tryd.prog 48 = some true := by kernel_rfl
@[simp] theorem f_ib48 : isBoolT Tryd.prog 48 = false := by kernel_rfl
@[simp] theorem f_is48 : isSlT Tryd.prog 48 = false := by kernel_rfl
@[simp] theorem f_by48 : byT Tryd.prog 48 = some 24 := by kernel_rfl
@[simp] theorem f_z48 : zT Tryd.prog 48 = some [.int .i64 0, .int .i64 0, .int .i64 0] := by kernel_rfl
@[simp] theorem f_ok48 : fldsOk Tryd.prog 48 = true := by kernel_rfl
@[simp] theorem f_fld48_0 : fldT Tryd.prog 48 0 = some (0, 1) := by kernel_rfl
@[simp] theorem f_fldA48_0 : fldA Tryd.prog 48 0 = some false := by kernel_rfl
@[simp] theorem f_pl48_0 : placeT Tryd.prog 48 0 = some (0, 1) := by kernel_rfl
@[simp] theorem f_fld48_1 : fldT Tryd.prog 48 1 = some (1, 1) := by kernel_rfl
@[simp] theorem f_fldA48_1 : fldA Tryd.prog 48 1 = some false := by kernel_rfl
@[simp] theorem f_pl48_1 : placeT Tryd.prog 48 1 = some (1, 1) := by kernel_rfl
@[simp] theorem f_fld48_2 : fldT Tryd.prog 48 2 = some (2, 1) := by kernel_rfl
@[simp] theorem f_fldA48_2 : fldA Tryd.prog 48 2 = some false := by kernel_rfl
@[simp] theorem f_pl48_2 : placeT Tryd.prog 48 2 = some (2, 1) := by kernel_rfl
@[simp] theorem f_sz49 : szT Tryd.prog 49 = some 1 := by kernel_rfl
@[simp] theorem f_ag49 : aggT Tryd.prog 49 = some false := by kernel_rfl
@[simp] theorem f_ib49 : isBoolT Tryd.prog 49 = false := by kernel_rfl
@[simp] theorem f_is49 : isSlT Tryd.prog 49 = false := by kernel_rfl
@[simp] theorem f_by49 : byT Tryd.prog 49 = some 8 := by kernel_rfl
@[simp] theorem f_z49 : zT Tryd.prog 49 = some [.nilFunc] := by kernel_rfl
@[simp] theorem f_sz50 : szT Tryd.prog 50 = some 3 := by kernel_rfl
@[simp] theorem f_ag50 : aggT Tryd.prog 50 = some true := by kernel_rfl
@[simp] theorem f_ib50 : isBoolT Tryd.prog 50 = false := by kernel_rfl
@[simp] theorem f_is50 : isSlT Tryd.prog 50 = false := by kernel_rfl
@[simp] theorem f_by50 : byT Tryd.prog 50 = some 24 := by kernel_rfl
@[simp] theorem f_z50 : zT Tryd.prog 50 = some [.int .i64 0, .int .i64 0, .int .i64 0] := by kernel_rfl
@[simp] theorem f_ok50 : fldsOk Tryd.prog 50 = true := by kernel_rfl
@[simp] theorem f_fld50_0 : fldT Tryd.prog 50 0 = some (0, 1) := by kernel_rfl
@[simp] theorem f_fldA50_0 : fldA Tryd.prog 50 0 = some false := by kernel_rfl
@[simp] theorem f_pl50_0 : placeT Tryd.prog 50 0 = some (0, 1) := by kernel_rfl
@[simp] theorem f_fld50_1 : fldT Tryd.prog 50 1 = some (1, 1) := by kernel_rfl
@[simp] theorem f_fldA50_1 : fldA Tryd.prog 50 1 = some false := by kernel_rfl
@[simp] theorem f_pl50_1 : placeT Tryd.prog 50 1 = some (1, 1) := by kernel_rfl
@[simp] theorem f_fld50_2 : fldT Tryd.prog 50 2 = some (2, 1) := by kernel_rfl
@[simp] theorem f_fldA50_2 : fldA Tryd.prog 50 2 = some false := by kernel_rfl
@[simp] theorem f_pl50_2 : placeT Tryd.prog 50 2 = some (2, 1) := by kernel_rfl
@[simp] theorem f_sz51 : szT Tryd.prog 51 = some 1 := by kernel_rfl
@[simp] theorem f_ag51 : aggT Tryd.prog 51 = some false := by kernel_rfl
@[simp] theorem f_ib51 : isBoolT Tryd.prog 51 = false := by kernel_rfl
@[simp] theorem f_is51 : isSlT Tryd.prog 51 = false := by kernel_rfl
@[simp] theorem f_by51 : byT Tryd.prog 51 = some 8 := by kernel_rfl
@[simp] theorem f_z51 : zT Tryd.prog 51 = some [.nilFunc] := by kernel_rfl
@[simp] theorem f_sz52 : szT Tryd.prog 52 = some 1 := by kernel_rfl
@[simp] theorem f_ag52 : aggT Tryd.prog 52 = some false := by kernel_rfl
@[simp] theorem f_ib52 : isBoolT Tryd.prog 52 = false := by kernel_rfl
@[simp] theorem f_is52 : isSlT Tryd.prog 52 = false := by kernel_rfl
@[simp] theorem f_by52 : byT Tryd.prog 52 = some 8 := by kernel_rfl
@[simp] theorem f_z52 : zT Tryd.prog 52 = some [.nilFunc] := by kernel_rfl
@[simp] theorem f_sz53 : szT Tryd.prog 53 = some 1 := by kernel_rfl
@[simp] theorem f_ag53 : aggT Tryd.prog 53 = some false := by kernel_rfl
@[simp] theorem f_ib53 : isBoolT Tryd.prog 53 = false := by kernel_rfl
@[simp] theorem f_is53 : isSlT Tryd.prog 53 = false := by kernel_rfl
@[simp] theorem f_by53 : byT Tryd.prog 53 = some 8 := by kernel_rfl
@[simp] theorem f_z53 : zT Tryd.prog 53 = some [.nilFunc] := by kernel_rfl
@[simp] theorem f_sz54 : szT Tryd.prog 54 = some 1 := by kernel_rfl
@[simp] theorem f_ag54 : aggT Tryd.prog 54 = some false := by kernel_rfl
@[simp] theorem f_ib54 : isBoolT Tryd.prog 54 = false := by kernel_rfl
@[simp] theorem f_is54 : isSlT Tryd.prog 54 = false := by kernel_rfl
@[simp] theorem f_by54 : byT Tryd.prog 54 = some 8 := by kernel_rfl
@[simp] theorem f_z54 : zT Tryd.prog 54 = some [.nilFunc] := by kernel_rfl
@[simp] theorem f_sz55 : szT Tryd.prog 55 = some 1 := by kernel_rfl
@[simp] theorem f_ag55 : aggT Tryd.prog 55 = some false := by kernel_rfl
@[simp] theorem f_ib55 : isBoolT Tryd.prog 55 = false := by kernel_rfl
@[simp] theorem f_is55 : isSlT Tryd.prog 55 = false := by kernel_rfl
@[simp] theorem f_by55 : byT Tryd.prog 55 = some 8 := by kernel_rfl
@[simp] theorem f_z55 : zT Tryd.prog 55 = some [.pointer none] := by kernel_rfl
@[simp] theorem f_sz56 : szT Tryd.prog 56 = some 1 := by kernel_rfl
@[simp] theorem f_ag56 : aggT Tryd.prog 56 = some false := by kernel_rfl
@[simp] theorem f_ib56 : isBoolT Tryd.prog 56 = false := by kernel_rfl
@[simp] theorem f_is56 : isSlT Tryd.prog 56 = false := by kernel_rfl
@[simp] theorem f_by56 : byT Tryd.prog 56 = some 8 := by kernel_rfl
@[simp] theorem f_z56 : zT Tryd.prog 56 = some [.nilFunc] := by kernel_rfl
@[simp] theorem f_sz57 : szT Tryd.prog 57 = some 1 := by kernel_rfl
@[simp] theorem f_ag57 : aggT Tryd.prog 57 = some false := by kernel_rfl
@[simp] theorem f_ib57 : isBoolT Tryd.prog 57 = false := by kernel_rfl
@[simp] theorem f_is57 : isSlT Tryd.prog 57 = false := by kernel_rfl
@[simp] theorem f_by57 : byT Tryd.prog 57 = some 8 := by kernel_rfl
@[simp] theorem f_z57 : zT Tryd.prog 57 = some [.nilFunc] := by kernel_rfl
@[simp] theorem f_sz58 : szT Tryd.prog 58 = some 1 := by kernel_rfl
@[simp] theorem f_ag58 : aggT Tryd.prog 58 = some false := by kernel_rfl
@[simp] theorem f_ib58 : isBoolT Tryd.prog 58 = false := by kernel_rfl
@[simp] theorem f_is58 : isSlT Tryd.prog 58 = false := by kernel_rfl
@[simp] theorem f_by58 : byT Tryd.prog 58 = some 8 := by kernel_rfl
@[simp] theorem f_z58 : zT Tryd.prog 58 = some [.nilFunc] := by kernel_rfl
@[simp] theorem f_sz59 : szT Tryd.prog 59 = some 1 := by kernel_rfl
@[simp] theorem f_ag59 : aggT Tryd.prog 59 = some false := by kernel_rfl
@[simp] theorem f_ib59 : isBoolT Tryd.prog 59 = false := by kernel_rfl
@[simp] theorem f_is59 : isSlT Tryd.prog 59 = false := by kernel_rfl
@[simp] theorem f_by59 : byT Tryd.prog 59 = some 8 := by kernel_rfl
@[simp] theorem f_z59 : zT Tryd.prog 59 = some [.nilFunc] := by kernel_rfl
@[simp] theorem f_sz60 : szT Tryd.prog 60 = some 1 := by kernel_rfl
@[simp] theorem f_ag60 : aggT Tryd.prog 60 = some false := by kernel_rfl
@[simp] theorem f_ib60 : isBoolT Tryd.prog 60 = false := by kernel_rfl
@[simp] theorem f_is60 : isSlT Tryd.prog 60 = false := by kernel_rfl
@[simp] theorem f_by60 : byT Tryd.prog 60 = some 8 := by kernel_rfl
@[simp] theorem f_z60 : zT Tryd.prog 60 = some [.nilFunc] := by kernel_rfl
@[simp] theorem f_sz61 : szT Tryd.prog 61 = some 1 := by kernel_rfl
@[simp] theorem f_ag61 : aggT Tryd.prog 61 = some false := by kernel_rfl
@[simp] theorem f_ib61 : isBoolT Tryd.prog 61 = false := by kernel_rfl
@[simp] theorem f_is61 : isSlT Tryd.prog 61 = false := by kernel_rfl
@[simp] theorem f_by61 : byT Tryd.prog 61 = some 8 := by kernel_rfl
@[simp] theorem f_z61 : zT Tryd.prog 61 = some [.nilFunc] := by kernel_rfl
@[simp] theorem f_sz63 : szT Tryd.prog 63 = some 1 := by kernel_rfl
@[simp] theorem f_ag63 : aggT Tryd.prog 63 = some false := by kernel_rfl
@[simp] theorem f_ib63 : isBoolT Tryd.prog 63 = false := by kernel_rfl
@[simp] theorem f_is63 : isSlT Tryd.prog 63 = false := by kernel_rfl
@[simp] theorem f_by63 : byT Tryd.prog 63 = some 8 := by kernel_rfl
@[simp] theorem f_z63 : zT Tryd.prog 63 = some [.nilFunc] := by kernel_rfl
@[simp] theorem f_sz64 : szT Tryd.prog 64 = some 1 := by kernel_rfl
@[simp] theorem f_ag64 : aggT Tryd.prog 64 = some false := by kernel_rfl
@[simp] theorem f_ib64 : isBoolT Tryd.prog 64 = false := by kernel_rfl
@[simp] theorem f_is64 : isSlT Tryd.prog 64 = false := by kernel_rfl
@[simp] theorem f_by64 : byT Tryd.prog 64 = some 8 := by kernel_rfl
@[simp] theorem f_z64 : zT Tryd.prog 64 = some [.nilFunc] := by kernel_rfl
@[simp] theorem f_sz65 : szT Tryd.prog 65 = some 1 := by kernel_rfl
@[simp] theorem f_ag65 : aggT Tryd.prog 65 = some false := by kernel_rfl
@[simp] theorem f_ib65 : isBoolT Tryd.prog 65 = false := by kernel_rfl
@[simp] theorem f_is65 : isSlT Tryd.prog 65 = false := by kernel_rfl
@[simp] theorem f_by65 : byT Tryd.prog 65 = some 8 := by kernel_rfl
@[simp] theorem f_z65 : zT Tryd.prog 65 = some [.nilFunc] := by kernel_rfl
@[simp] theorem f_sz66 : szT Tryd.prog 66 = some 1 := by kernel_rfl
@[simp] theorem f_ag66 : aggT Tryd.prog 66 = some false := by kernel_rfl
@[simp] theorem f_ib66 : isBoolT Tryd.prog 66 = false := by kernel_rfl
@[simp] theorem f_is66 : isSlT Tryd.prog 66 = false := by kernel_rfl
@[simp] theorem f_by66 : byT Tryd.prog 66 = some 8 := by kernel_rfl
@[simp] theorem f_z66 : zT Tryd.prog 66 = some [.nilFunc] := by kernel_rfl
@[simp] theorem f_sz67 : szT Tryd.prog 67 = some 1 := by kernel_rfl
@[simp] theorem f_ag67 : aggT Tryd.prog 67 = some false := by kernel_rfl
@[simp] theorem f_ib67 : isBoolT Tryd.prog 67 = false := by kernel_rfl
@[simp] theorem f_is67 : isSlT Tryd.prog 67 = false := by kernel_rfl
@[simp] theorem f_by67 : byT Tryd.prog 67 = some 8 := by kernel_rfl
@[simp] theorem f_z67 : zT Tryd.prog 67 = some [.nilFunc] := by kernel_rfl
@[simp] theorem f_sz69 : szT Tryd.prog 69 = some 1 := by kernel_rfl
@[simp] theorem f_ag69 : aggT Tryd.prog 69 = some false := by kernel_rfl
@[simp] theorem f_ib69 : isBoolT Tryd.prog 69 = false := by kernel_rfl
@[simp] theorem f_is69 : isSlT Tryd.prog 69 = false := by kernel_rfl
@[simp] theorem f_by69 : byT Tryd.prog 69 = some 8 := by kernel_rfl
@[simp] theorem f_z69 : zT Tryd.prog 69 = some [.nilFunc] := by kernel_rfl
@[simp] theorem f_sz70 : szT Tryd.prog 70 = some 1 := by kernel_rfl
@[simp] theorem f_ag70 : aggT Tryd.prog 70 = some false := by kernel_rfl
@[simp] theorem f_ib70 : isBoolT Tryd.prog 70 = false := by kernel_rfl
@[simp] theorem f_is70 : isSlT Tryd.prog 70 = false := by kernel_rfl
@[simp] theorem f_by70 : byT Tryd.prog 70 = some 8 := by kernel_rfl
@[simp] theorem f_z70 : zT Tryd.prog 70 = some [.nilFunc] := by kernel_rfl
@[simp] theorem f_sz71 : szT Tryd.prog 71 = some 1 := by kernel_rfl
@[simp] theorem f_ag71 : aggT Tryd.prog 71 = some false := by kernel_rfl
@[simp] theorem f_ib71 : isBoolT Tryd.prog 71 = false := by kernel_rfl
@[simp] theorem f_is71 : isSlT Tryd.prog 71 = false := by kernel_rfl
@[simp] theorem f_by71 : byT Tryd.prog 71 = some 8 := by kernel_rfl
@[simp] theorem f_z71 : zT Tryd.prog 71 = some [.nilFunc] := by kernel_rfl
@[simp] theorem f_sz72 : szT Tryd.prog 72 = some 1 := by kernel_rfl
@[simp] theorem f_ag72 : aggT Tryd.prog 72 = some false := by kernel_rfl
@[simp] theorem f_ib72 : isBoolT Tryd.prog 72 = false := by kernel_rfl
@[simp] theorem f_is72 : isSlT Tryd.prog 72 = false := by kernel_rfl
@[simp] theorem f_by72 : byT Tryd.prog 72 = some 8 := by kernel_rfl
@[simp] theorem f_z72 : zT Tryd.prog 72 = some [.nilFunc] := by kernel_rfl
@[simp] theorem f_sz73 : szT Tryd.prog 73 = some 1 := by kernel_rfl
@[simp] theorem f_ag73 : aggT Tryd.prog 73 = some false := by kernel_rfl
@[simp] theorem f_ib73 : isBoolT Tryd.prog 73 = false := by kernel_rfl
@[simp] theorem f_is73 : isSlT Tryd.prog 73 = false := by kernel_rfl
@[simp] theorem f_by73 : byT Tryd.prog 73 = some 8 := by kernel_rfl
@[simp] theorem f_z73 : zT Tryd.prog 73 = some [.nilFunc] := by kernel_rfl
@[simp] theorem f_sz74 : szT Tryd.prog 74 = some 1 := by kernel_rfl
@[simp] theorem f_ag74 : aggT Tryd.prog 74 = some false := by kernel_rfl
@[simp] theorem f_ib74 : isBoolT Tryd.prog 74 = false := by kernel_rfl
@[simp] theorem f_is74 : isSlT Tryd.prog 74 = false := by kernel_rfl
@[simp] theorem f_by74 : byT Tryd.prog 74 = some 8 := by kernel_rfl
@[simp] theorem f_z74 : zT Tryd.prog 74 = some [.nilFunc] := by kernel_rfl
@[simp] theorem f_sz75 : szT Tryd.prog 75 = some 1 := by kernel_rfl
@[simp] theorem f_ag75 : aggT Tryd.prog 75 = some false := by kernel_rfl
@[simp] theorem f_ib75 : isBoolT Tryd.prog 75 = false := by kernel_rfl
@[simp] theorem f_is75 : isSlT Tryd.prog 75 = false := by kernel_rfl
@[simp] theorem f_by75 : byT Tryd.prog 75 = some 8 := by kernel_rfl
@[simp] theorem f_z75 : zT Tryd.prog 75 = some [.pointer none] := by kernel_rfl
@[simp] theorem f_sz77 : szT Tryd.prog 77 = some 1 := by kernel_rfl
@[simp] theorem f_ag77 : aggT Tryd.prog 77 = some false := by kernel_rfl
@[simp] theorem f_ib77 : isBoolT Tryd.prog 77 = false := by kernel_rfl
@[simp] theorem f_is77 : isSlT Tryd.prog 77 = false := by kernel_rfl
@[simp] theorem f_by77 : byT Tryd.prog 77 = some 8 := by kernel_rfl
@[simp] theorem f_z77 : zT Tryd.prog 77 = some [.nilFunc] := by kernel_rfl
@[simp] theorem f_sz79 : szT Tryd.prog 79 = some 1 := by kernel_rfl
@[simp] theorem f_ag79 : aggT Tryd.prog 79 = some false := by kernel_rfl
@[simp] theorem f_ib79 : isBoolT Tryd.prog 79 = false := by kernel_rfl
@[simp] theorem f_is79 : isSlT Tryd.prog 79 = false := by kernel_rfl
@[simp] theorem f_by79 : byT Tryd.prog 79 = some 8 := by kernel_rfl
@[simp] theorem f_z79 : zT Tryd.prog 79 = some [.nilFunc] := by kernel_rfl
@[simp] theorem f_sz80 : szT Tryd.prog 80 = some 1 := by kernel_rfl
@[simp] theorem f_ag80 : aggT Tryd.prog 80 = some false := by kernel_rfl
@[simp] theorem f_ib80 : isBoolT Tryd.prog 80 = false := by kernel_rfl
@[simp] theorem f_is80 : isSlT Tryd.prog 80 = false := by kernel_rfl
@[simp] theorem f_by80 : byT Tryd.prog 80 = some 8 := by kernel_rfl
@[simp] theorem f_z80 : zT Tryd.prog 80 = some [.nilFunc] := by kernel_rfl
@[simp] theorem f_sz81 : szT Tryd.prog 81 = some 1 := by kernel_rfl
@[simp] theorem f_ag81 : aggT Tryd.prog 81 = some false := by kernel_rfl
@[simp] theorem f_ib81 : isBoolT Tryd.prog 81 = false := by kernel_rfl
@[simp] theorem f_is81 : isSlT Tryd.prog 81 = true := by kernel_rfl
@[simp] theorem f_by81 : byT Tryd.prog 81 = some 24 := by kernel_rfl
@[simp] theorem f_z81 : zT Tryd.prog 81 = some [.slice none 0 0] := by kernel_rfl
@[simp] theorem f_sl81 : slT Tryd.prog 81 = some 1 := by kernel_rfl
@[simp] theorem f_el81 : elT Tryd.prog 81 = some 3 := by kernel_rfl
@[simp] theorem f_sz83 : szT Tryd.prog 83 = some 1 := by kernel_rfl
@[simp] theorem f_ag83 : aggT Tryd.prog 83 = some false := by kernel_rfl
@[simp] theorem f_ib83 : isBoolT Tryd.prog 83 = false := by kernel_rfl
@[simp] theorem f_is83 : isSlT Tryd.prog 83 = false := by kernel_rfl
@[simp] theorem f_by83 : byT Tryd.prog 83 = some 8 := by kernel_rfl
@[simp] theorem f_z83 : zT Tryd.prog 83 = some [.nilFunc] := by kernel_rfl
@[simp] theorem f_sz84 : szT Tryd.prog 84 = some 1 := by kernel_rfl
@[simp] theorem f_ag84 : aggT Tryd.prog 84 = some false := by kernel_rfl
@[simp] theorem f_ib84 : isBoolT Tryd.prog 84 = false := by kernel_rfl
@[simp] theorem f_is84 : isSlT Tryd.prog 84 = false := by kernel_rfl
@[simp] theorem f_by84 : byT Tryd.prog 84 = some 8 := by kernel_rfl
@[simp] theorem f_z84 : zT Tryd.prog 84 = some [.nilFunc] := by kernel_rfl
@[simp] theorem f_sz85 : szT Tryd.prog 85 = some 1 := by kernel_rfl
@[simp] theorem f_ag85 : aggT Tryd.prog 85 = some false := by kernel_rfl
@[simp] theorem f_ib85 : isBoolT Tryd.prog 85 = false := by kernel_rfl
@[simp] theorem f_is85 : isSlT Tryd.prog 85 = false := by kernel_rfl
@[simp] theorem f_by85 : byT Tryd.prog 85 = some 8 := by kernel_rfl
@[simp] theorem f_z85 : zT Tryd.prog 85 = some [.nilFunc] := by kernel_rfl
@[simp] theorem f_sz86 : szT Tryd.prog 86 = some 1 := by kernel_rfl
@[simp] theorem f_ag86 : aggT Tryd.prog 86 = some false := by kernel_rfl
@[simp] theorem f_ib86 : isBoolT Tryd.prog 86 = false := by kernel_rfl
@[simp] theorem f_is86 : isSlT Tryd.prog 86 = false := by kernel_rfl
@[simp] theorem f_by86 : byT Tryd.prog 86 = some 8 := by kernel_rfl
@[simp] theorem f_z86 : zT Tryd.prog 86 = some [.nilFunc] := by kernel_rfl
@[simp] theorem f_sz87 : szT Tryd.prog 87 = some 1 := by kernel_rfl
@[simp] theorem f_ag87 : aggT Tryd.prog 87 = some false := by kernel_rfl
@[simp] theorem f_ib87 : isBoolT Tryd.prog 87 = false := by kernel_rfl
@[simp] theorem f_is87 : isSlT Tryd.prog 87 = false := by kernel_rfl
@[simp] theorem f_by87 : byT Tryd.prog 87 = some 8 := by kernel_rfl
@[simp] theorem f_z87 : zT Tryd.prog 87 = some [.nilFunc] := by kernel_rfl
@[simp] theorem f_sz88 : szT Tryd.prog 88 = some 1 := by kernel_rfl
@[simp] theorem f_ag88 : aggT Tryd.prog 88 = some false := by kernel_rfl
@[simp] theorem f_ib88 : isBoolT Tryd.prog 88 = false := by kernel_rfl
@[simp] theorem f_is88 : isSlT Tryd.prog 88 = false := by kernel_rfl
@[simp] theorem f_by88 : byT Tryd.prog 88 = some 8 := by kernel_rfl
@[simp] theorem f_z88 : zT Tryd.prog 88 = some [.map none] := by kernel_rfl
@[simp] theorem f_sz89 : szT Tryd.prog 89 = some 3 := by kernel_rfl
@[simp] theorem f_ag89 : aggT Tryd.prog 89 = some true := by kernel_rfl
@[simp] theorem f_ib89 : isBoolT Tryd.prog 89 = false := by kernel_rfl
@[simp] theorem f_is89 : isSlT Tryd.prog 89 = false := by kernel_rfl
@[simp] theorem f_by89 : byT Tryd.prog 89 = some 40 := by kernel_rfl
@[simp] theorem f_z89 : zT Tryd.prog 89 = some [.slice none 0 0, .int .i64 0, .map none] := by kernel_rfl
@[simp] theorem f_ok89 : fldsOk Tryd.prog 89 = true := by kernel_rfl
@[simp] theorem f_fld89_0 : fldT Tryd.prog 89 0 = some (0, 1) := by kernel_rfl
@[simp] theorem f_fldA89_0 : fldA Tryd.prog 89 0 = some false := by kernel_rfl
@[simp] theorem f_pl89_0 : placeT Tryd.prog 89 0 = some (0, 1) := by kernel_rfl
@[simp] theorem f_fld89_1 : fldT Tryd.prog 89 1 = some (1, 1) := by kernel_rfl
@[simp] theorem f_fldA89_1 : fldA Tryd.prog 89 1 = some false := by kernel_rfl
@[simp] theorem f_pl89_1 : placeT Tryd.prog 89 1 = some (1, 1) := by kernel_rfl
@[simp] theorem f_fld89_2 : fldT Tryd.prog 89 2 = some (2, 1) := by kernel_rfl
@[simp] theorem f_fldA89_2 : fldA Tryd.prog 89 2 = some false := by kernel_rfl
@[simp] theorem f_pl89_2 : placeT Tryd.prog 89 2 = some (2, 1) := by kernel_rfl
@[simp] theorem f_sz90 : szT Tryd.prog 90 = some 3 := by kernel_rfl
@[simp] theorem f_ag90 : aggT Tryd.prog 90 = some true := by kernel_rfl
@[simp] theorem f_ib90 : isBoolT Tryd.prog 90 = false := by kernel_rfl
@[simp] theorem f_is90 : isSlT Tryd.prog 90 = false := by kernel_rfl
@[simp] theorem f_by90 : byT Tryd.prog 90 = some 40 := by kernel_rfl
@[simp] theorem f_z90 : zT Tryd.prog 90 = some [.slice none 0 0, .int .i64 0, .map none] := by kernel_rfl
@[simp] theorem f_ok90 : fldsOk Tryd.prog 90 = true := by kernel_rfl
@[simp] theorem f_fld90_0 : fldT Tryd.prog 90 0 = some (0, 1) := by kernel_rfl
@[simp] theorem f_fldA90_0 : fldA Tryd.prog 90 0 = some false := by kernel_rfl
@[simp] theorem f_pl90_0 : placeT Tryd.prog 90 0 = some (0, 1) := by kernel_rfl
@[simp] theorem f_fld90_1 : fldT Tryd.prog 90 1 = some (1, 1) := by kernel_rfl
@[simp] theorem f_fldA90_1 : fldA Tryd.prog 90 1 = some false := by kernel_rfl
@[simp] theorem f_pl90_1 : placeT Tryd.prog 90 1 = some (1, 1) := by kernel_rfl
@[simp] theorem f_fld90_2 : fldT Tryd.prog 90 2 = some (2, 1) := by kernel_rfl
@[simp] theorem f_fldA90_2 : fldA Tryd.prog 90 2 = some false := by kernel_rfl
@[simp] theorem f_pl90_2 : placeT Tryd.prog 90 2 = some (2, 1) := by kernel_rfl
@[simp] theorem f_sz91 : szT Tryd.prog 91 = some 1 := by kernel_rfl
@[simp] theorem f_ag91 : aggT Tryd.prog 91 = some false := by kernel_rfl
@[simp] theorem f_ib91 : isBoolT Tryd.prog 91 = false := by kernel_rfl
@[simp] theorem f_is91 : isSlT Tryd.prog 91 = false := by kernel_rfl
@[simp] theorem f_by91 : byT Tryd.prog 91 = some 8 := by kernel_rfl
@[simp] theorem f_z91 : zT Tryd.prog 91 = some [.nilFunc] := by kernel_rfl
@[simp] theorem f_sz92 : szT Tryd.prog 92 = some 8 := by kernel_rfl
@[simp] theorem f_ag92 : aggT Tryd.prog 92 = some true := by kernel_rfl
@[simp] theorem f_ib92 : isBoolT Tryd.prog 92 = false := by kernel_rfl
@[simp] theorem f_is92 : isSlT Tryd.prog 92 = false := by kernel_rfl
@[simp] theorem f_by92 : byT Tryd.prog 92 = some 8 := by kernel_rfl
@[simp] theorem f_z92 : zT Tryd.prog 92 = some [.bool false, .bool false, .bool false, .bool false, .bool false, .bool false, .bool false, .bool false] := by kernel_rfl
@[simp] theorem f_ar92 : arT Tryd.prog 92 = some (8, 1) := by kernel_rfl
@[simp] theorem f_arA92 : arA Tryd.prog 92 = some false := by kernel_rfl
@[simp] theorem f_ok92 : fldsOk Tryd.prog 92 = true := by kernel_rfl
@[simp] theorem f_pl92_0 : placeT Tryd.prog 92 0 = some (0, 1) := by kernel_rfl
@[simp] theorem f_pl92_1 : placeT Tryd.prog 92 1 = some (1, 1) := by kernel_rfl
@[simp] theorem f_pl92_2 : placeT Tryd.prog 92 2 = some (2, 1) := by kernel_rfl
@[simp] theorem f_pl92_3 : placeT Tryd.prog 92 3 = some (3, 1) := by kernel_rfl
@[simp] theorem f_pl92_4 : placeT Tryd.prog 92 4 = some (4, 1) := by kernel_rfl
@[simp] theorem f_pl92_5 : placeT Tryd.prog 92 5 = some (5, 1) := by kernel_rfl
@[simp] theorem f_pl92_6 : placeT Tryd.prog 92 6 = some (6, 1) := by kernel_rfl
@[simp] theorem f_pl92_7 : placeT Tryd.prog 92 7 = some (7, 1) := by kernel_rfl
@[simp] theorem f_sz93 : szT Tryd.prog 93 = some 64 := by kernel_rfl
@[simp] theorem f_ag93 : aggT Tryd.prog 93 = some true := by kernel_rfl
@[simp] theorem f_ib93 : isBoolT Tryd.prog 93 = false := by kernel_rfl
@[simp] theorem f_is93 : isSlT Tryd.prog 93 = false := by kernel_rfl
@[simp] theorem f_z93 : zT Tryd.prog 93 = some (List.replicate 64 (.bool false)) := by kernel_rfl
@[simp] theorem f_ar93 : arT Tryd.prog 93 = some (8, 8) := by kernel_rfl
@[simp] theorem f_arA93 : arA Tryd.prog 93 = some true := by kernel_rfl
@[simp] theorem f_ok93 : fldsOk Tryd.prog 93 = true := by kernel_rfl
@[simp] theorem f_pl93_0 : placeT Tryd.prog 93 0 = some (0, 8) := by kernel_rfl
@[simp] theorem f_pl93_1 : placeT Tryd.prog 93 1 = some (8, 8) := by kernel_rfl
@[simp] theorem f_pl93_2 : placeT Tryd.prog 93 2 = some (16, 8) := by kernel_rfl
@[simp] theorem f_pl93_3 : placeT Tryd.prog 93 3 = some (24, 8) := by kernel_rfl
@[simp] theorem f_pl93_4 : placeT Tryd.prog 93 4 = some (32, 8) := by kernel_rfl
@[simp] theorem f_pl93_5 : placeT Tryd.prog 93 5 = some (40, 8) := by kernel_rfl
@[simp] theorem f_pl93_6 : placeT Tryd.prog 93 6 = some (48, 8) := by kernel_rfl
@[simp] theorem f_pl93_7 : placeT Tryd.prog 93 7 = some (56, 8) := by kernel_rfl
@[simp] theorem f_sz94 : szT Tryd.prog 94 = some 512 := by kernel_rfl
@[simp] theorem f_ag94 : aggT Tryd.prog 94 = some true := by kernel_rfl
@[simp] theorem f_ib94 : isBoolT Tryd.prog 94 = false := by kernel_rfl
@[simp] theorem f_is94 : isSlT Tryd.prog 94 = false := by kernel_rfl
@[simp] theorem f_sz95 : szT Tryd.prog 95 = some 1 := by kernel_rfl
@[simp] theorem f_ag95 : aggT Tryd.prog 95 = some false := by kernel_rfl
@[simp] theorem f_ib95 : isBoolT Tryd.prog 95 = false := by kernel_rfl
@[simp] theorem f_is95 : isSlT Tryd.prog 95 = false := by kernel_rfl
@[simp] theorem f_by95 : byT Tryd.prog 95 = some 8 := by kernel_rfl
@[simp] theorem f_z95 : zT Tryd.prog 95 = some [.nilFunc] := by kernel_rfl
@[simp] theorem f_sz96 : szT Tryd.prog 96 = some 1 := by kernel_rfl
@[simp] theorem f_ag96 : aggT Tryd.prog 96 = some false := by kernel_rfl
@[simp] theorem f_ib96 : isBoolT Tryd.prog 96 = false := by kernel_rfl
@[simp] theorem f_is96 : isSlT Tryd.prog 96 = false := by kernel_rfl
@[simp] theorem f_by96 : byT Tryd.prog 96 = some 8 := by kernel_rfl
@[simp] theorem f_z96 : zT Tryd.prog 96 = some [.nilFunc] := by kernel_rfl
@[simp] theorem f_sz97 : szT Tryd.prog 97 = some 1 := by kernel_rfl
@[simp] theorem f_ag97 : aggT Tryd.prog 97 = some false := by kernel_rfl
@[simp] theorem f_ib97 : isBoolT Tryd.prog 97 = false := by kernel_rfl
@[simp] theorem f_is97 : isSlT Tryd.prog 97 = false := by kernel_rfl
@[simp] theorem f_by97 : byT Tryd.prog 97 = some 8 := by kernel_rfl
@[simp] theorem f_z97 : zT Tryd.prog 97 = some [.nilFunc] := by kernel_rfl
@[simp] theorem f_sz98 : szT Tryd.prog 98 = some 1 := by kernel_rfl
@[simp] theorem f_ag98 : aggT Tryd.prog 98 = some false := by kernel_rfl
@[simp] theorem f_ib98 : isBoolT Tryd.prog 98 = false := by kernel_rfl
@[simp] theorem f_is98 : isSlT Tryd.prog 98 = false := by kernel_rfl
@[simp] theorem f_by98 : byT Tryd.prog 98 = some 8 := by kernel_rfl
@[simp] theorem f_z98 : zT Tryd.prog 98 = some [.nilFunc] := by kernel_rfl
@[simp] theorem f_sz99 : szT Tryd.prog 99 = some 1 := by kernel_rfl
@[simp] theorem f_ag99 : aggT Tryd.prog 99 = some false := by kernel_rfl
@[simp] theorem f_ib99 : isBoolT Tryd.prog 99 = false := by kernel_rfl
@[simp] theorem f_is99 : isSlT Tryd.prog 99 = false := by kernel_rfl
@[simp] theorem f_by99 : byT Tryd.prog 99 = some 8 := by kernel_rfl
@[simp] theorem f_z99 : zT Tryd.prog 99 = some [.nilFunc] := by kernel_rfl
@[simp] theorem f_sz101 : szT Tryd.prog 101 = some 1 := by kernel_rfl
@[simp] theorem f_ag101 : aggT Tryd.prog 101 = some false := by kernel_rfl
@[simp] theorem f_ib101 : isBoolT Tryd.prog 101 = false := by kernel_rfl
@[simp] theorem f_is101 : isSlT Tryd.prog 101 = false := by kernel_rfl
@[simp] theorem f_by101 : byT Tryd.prog 101 = some 8 := by kernel_rfl
@[simp] theorem f_z101 : zT Tryd.prog 101 = some [.nilFunc] := by kernel_rfl
@[simp] theorem f_sz102 : szT Tryd.prog 102 = some 8 := by kernel_rfl
@[simp] theorem f_ag102 : aggT Tryd.prog 102 = some true := by kernel_rfl
@[simp] theorem f_ib102 : isBoolT Tryd.prog 102 = false := by kernel_rfl
@[simp] theorem f_is102 : isSlT Tryd.prog 102 = false := by kernel_rfl
@[simp] theorem f_by102 : byT Tryd.prog 102 = some 64 := by kernel_rfl
@[simp] theorem f_z102 : zT Tryd.prog 102 = some [.int .i64 0, .int .i64 0, .int .i64 0, .int .i64 0, .int .i64 0, .int .i64 0, .int .i64 0, .int .i64 0] := by kernel_rfl
@[simp] theorem f_ar102 : arT Tryd.prog 102 = some (8, 1) := by kernel_rfl
@[simp] theorem f_arA102 : arA Tryd.prog 102 = some false := by kernel_rfl
@[simp] theorem f_ok102 : fldsOk Tryd.prog 102 = true := by kernel_rfl
@[simp] theorem f_pl102_0 : placeT Tryd.prog 102 0 = some (0, 1) := by kernel_rfl
@[simp] theorem f_pl102_1 : placeT Tryd.prog 102 1 = some (1, 1) := by kernel_rfl
@[simp] theorem f_pl102_2 : placeT Tryd.prog 102 2 = some (2, 1) := by kernel_rfl
@[simp] theorem f_pl102_3 : placeT Tryd.prog 102 3 = some (3, 1) := by kernel_rfl
@[simp] theorem f_pl102_4 : placeT Tryd.prog 102 4 = some (4, 1) := by kernel_rfl
@[simp] theorem f_pl102_5 : placeT Tryd.prog 102 5 = some (5, 1) := by kernel_rfl
@[simp] theorem f_pl102_6 : placeT Tryd.prog 102 6 = some (6, 1) := by kernel_rfl
@[simp] theorem f_pl102_7 : placeT Tryd.prog 102 7 = some (7, 1) := by kernel_rfl
@[simp] theorem f_sz103 : szT Tryd.prog 103 = some 64 := by kernel_rfl
@[simp] theorem f_ag103 : aggT Tryd.prog 103 = some true := by kernel_rfl
@[simp] theorem f_ib103 : isBoolT Tryd.prog 103 = false := by kernel_rfl
@[simp] theorem f_is103 : isSlT Tryd.prog 103 = false := by kernel_rfl
@[simp] theorem f_z103 : zT Tryd.prog 103 = some (List.replicate 64 (.int .i64 0)) := by kernel_rfl
@[simp] theorem f_ar103 : arT Tryd.prog 103 = some (8, 8) := by kernel_rfl
@[simp] theorem f_arA103 : arA Tryd.prog 103 = some true := by kernel_rfl
@[simp] theorem f_ok103 : fldsOk Tryd.prog 103 = true := by kernel_rfl
@[simp] theorem f_pl103_0 : placeT Tryd.prog 103 0 = some (0, 8) := by kernel_rfl
@[simp] theorem f_pl103_1 : placeT Tryd.prog 103 1 = some (8, 8) := by kernel_rfl
@[simp] theorem f_pl103_2 : placeT Tryd.prog 103 2 = some (16, 8) := by kernel_rfl
@[simp] theorem f_pl103_3 : placeT Tryd.prog 103 3 = some (24, 8) := by kernel_rfl
@[simp] theorem f_pl103_4 : placeT Tryd.prog 103 4 = some (32, 8) := by kernel_rfl
@[simp] theorem f_pl103_5 : placeT Tryd.prog 103 5 = some (40, 8) := by kernel_rfl
@[simp] theorem f_pl103_6 : placeT Tryd.prog 103 6 = some (48, 8) := by kernel_rfl
@[simp] theorem f_pl103_7 : placeT Tryd.prog 103 7 = some (56, 8) := by kernel_rfl
@[simp] theorem f_sz104 : szT Tryd.prog 104 = some 512 := by kernel_rfl
@[simp] theorem f_ag104 : aggT Tryd.prog 104 = some true := by kernel_rfl
@[simp] theorem f_ib104 : isBoolT Tryd.prog 104 = false := by kernel_rfl
@[simp] theorem f_is104 : isSlT Tryd.prog 104 = false := by kernel_rfl
@[simp] theorem f_sz105 : szT Tryd.prog 105 = some 512 := by kernel_rfl
@[simp] theorem f_ag105 : aggT Tryd.prog 105 = some true := by kernel_rfl
@[simp] theorem f_ib105 : isBoolT Tryd.prog 105 = false := by kernel_rfl
@[simp] theorem f_is105 : isSlT Tryd.prog 105 = false := by kernel_rfl
@[simp] theorem f_sz106 : szT Tryd.prog 106 = some 1 := by kernel_rfl
@[simp] theorem f_ag106 : aggT Tryd.prog 106 = some false := by kernel_rfl
@[simp] theorem f_ib106 : isBoolT Tryd.prog 106 = false := by kernel_rfl
@[simp] theorem f_is106 : isSlT Tryd.prog 106 = false := by kernel_rfl
@[simp] theorem f_by106 : byT Tryd.prog 106 = some 8 := by kernel_rfl
@[simp] theorem f_z106 : zT Tryd.prog 106 = some [.nilFunc] := by kernel_rfl
@[simp] theorem f_sz107 : szT Tryd.prog 107 = some 1 := by kernel_rfl
@[simp] theorem f_ag107 : aggT Tryd.prog 107 = some false := by kernel_rfl
@[simp] theorem f_ib107 : isBoolT Tryd.prog 107 = false := by kernel_rfl
@[simp] theorem f_is107 : isSlT Tryd.prog 107 = false := by kernel_rfl
@[simp] theorem f_by107 : byT Tryd.prog 107 = some 8 := by kernel_rfl
@[simp] theorem f_z107 : zT Tryd.prog 107 = some [.nilFunc] := by kernel_rfl
@[simp] theorem f_sz108 : szT Tryd.prog 108 = some 1 := by kernel_rfl
@[simp] theorem f_ag108 : aggT Tryd.prog 108 = some false := by kernel_rfl
@[simp] theorem f_ib108 : isBoolT Tryd.prog 108 = false := by kernel_rfl
@[simp] theorem f_is108 : isSlT Tryd.prog 108 = false := by kernel_rfl
@[simp] theorem f_by108 : byT Tryd.prog 108 = some 8 := by kernel_rfl
@[simp] theorem f_z108 : zT Tryd.prog 108 = some [.nilFunc] := by kernel_rfl
@[simp] theorem f_sz109 : szT Tryd.prog 109 = some 1 := by kernel_rfl
@[simp] theorem f_ag109 : aggT Tryd.prog 109 = some false := by kernel_rfl
@[simp] theorem f_ib109 : isBoolT Tryd.prog 109 = false := by kernel_rfl
@[simp] theorem f_is109 : isSlT Tryd.prog 109 = false := by kernel_rfl
@[simp] theorem f_by109 : byT Tryd.prog 109 = some 8 := by kernel_rfl
@[simp] theorem f_z109 : zT Tryd.prog 109 = some [.map none] := by kernel_rfl
@[simp] theorem f_sz110 : szT Tryd.prog 110 = some 1 := by kernel_rfl
@[simp] theorem f_ag110 : aggT Tryd.prog 110 = some false := by kernel_rfl
@[simp] theorem f_ib110 : isBoolT Tryd.prog 110 = false := by kernel_rfl
@[simp] theorem f_is110 : isSlT Tryd.prog 110 = false := by kernel_rfl
@[simp] theorem f_by110 : byT Tryd.prog 110 = some 8 := by kernel_rfl
@[simp] theorem f_z110 : zT Tryd.prog 110 = some [.nilFunc] := by kernel_rfl
@[simp] theorem f_sz111 : szT Tryd.prog 111 = some 1 := by kernel_rfl
@[simp] theorem f_ag111 : aggT Tryd.prog 111 = some false := by kernel_rfl
@[simp] theorem f_ib111 : isBoolT Tryd.prog 111 = false := by kernel_rfl
@[simp] theorem f_is111 : isSlT Tryd.prog 111 = false := by kernel_rfl
@[simp] theorem f_by111 : byT Tryd.prog 111 = some 8 := by kernel_rfl
@[simp] theorem f_z111 : zT Tryd.prog 111 = some [.nilFunc] := by kernel_rfl
@[simp] theorem f_sz112 : szT Tryd.prog 112 = some 1 := by kernel_rfl
@[simp] theorem f_ag112 : aggT Tryd.prog 112 = some false := by kernel_rfl
@[simp] theorem f_ib112 : isBoolT Tryd.prog 112 = false := by kernel_rfl
@[simp] theorem f_is112 : isSlT Tryd.prog 112 = false := by kernel_rfl
@[simp] theorem f_by112 : byT Tryd.prog 112 = some 8 := by kernel_rfl
@[simp] theorem f_z112 : zT Tryd.prog 112 = some [.nilFunc] := by kernel_rfl
@[simp] theorem f_sz113 : szT Tryd.prog 113 = some 1 := by kernel_rfl
@[simp] theorem f_ag113 : aggT Tryd.prog 113 = some false := by kernel_rfl
@[simp] theorem f_ib113 : isBoolT Tryd.prog 113 = false := by kernel_rfl
@[simp] theorem f_is113 : isSlT Tryd.prog 113 = false := by kernel_rfl
@[simp] theorem f_by113 : byT Tryd.prog 113 = some 8 := by kernel_rfl
@[simp] theorem f_z113 : zT Tryd.prog 113 = some [.nilFunc] := by kernel_rfl
@[simp] theorem f_sz114 : szT Tryd.prog 114 = some 1 := by kernel_rfl
@[simp] theorem f_ag114 : aggT Tryd.prog 114 = some false := by kernel_rfl
@[simp] theorem f_ib114 : isBoolT Tryd.prog 114 = false := by kernel_rfl
@[simp] theorem f_is114 : isSlT Tryd.prog 114 = false := by kernel_rfl
@[simp] theorem f_by114 : byT Tryd.prog 114 = some 8 := by kernel_rfl
@[simp] theorem f_z114 : zT Tryd.prog 114 = some [.nilFunc] := by kernel_rfl
@[simp] theorem f_sz115 : szT Tryd.prog 115 = some 1 := by kernel_rfl
@[simp] theorem f_ag115 : aggT Tryd.prog 115 = some false := by kernel_rfl
@[simp] theorem f_ib115 : isBoolT Tryd.prog 115 = false := by kernel_rfl
@[simp] theorem f_is115 : isSlT Tryd.prog 115 = false := by kernel_rfl
@[simp] theorem f_by115 : byT Tryd.prog 115 = some 8 := by kernel_rfl
@[simp] theorem f_z115 : zT Tryd.prog 115 = some [.nilFunc] := by kernel_rfl
@[simp] theorem f_sz116 : szT Tryd.prog 116 = some 1 := by kernel_rfl
@[simp] theorem f_ag116 : aggT Tryd.prog 116 = some false := by kernel_rfl
@[simp] theorem f_ib116 : isBoolT Tryd.prog 116 = false := by kernel_rfl
@[simp] theorem f_is116 : isSlT Tryd.prog 116 = false := by kernel_rfl
@[simp] theorem f_by116 : byT Tryd.prog 116 = some 8 := by kernel_rfl
@[simp] theorem f_z116 : zT Tryd.prog 116 = some [.nilFunc] := by kernel_rfl
@[simp] theorem f_sz117 : szT Tryd.prog 117 = some 1 := by kernel_rfl
@[simp] theorem f_ag117 : aggT Tryd.prog 117 = some false := by kernel_rfl
@[simp] theorem f_ib117 : isBoolT Tryd.prog 117 = false := by kernel_rfl
@[simp] theorem f_is117 : isSlT Tryd.prog 117 = false := by kernel_rfl
@[simp] theorem f_by117 : byT Tryd.prog 117 = some 8 := by kernel_rfl
@[simp] theorem f_z117 : zT Tryd.prog 117 = some [.nilFunc] := by kernel_rfl
@[simp] theorem f_sz118 : szT Tryd.prog 118 = some 1 := by kernel_rfl
@[simp] theorem f_ag118 : aggT Tryd.prog 118 = some false := by kernel_rfl
@[simp] theorem f_ib118 : isBoolT Tryd.prog 118 = false := by kernel_rfl
@[simp] theorem f_is118 : isSlT Tryd.prog 118 = false := by kernel_rfl
@[simp] theorem f_by118 : byT Tryd.prog 118 = some 8 := by kernel_rfl
@[simp] theorem f_z118 : zT Tryd.prog 118 = some [.nilFunc] := by kernel_rfl
@[simp] theorem f_sz119 : szT Tryd.prog 119 = some 1 := by kernel_rfl
@[simp] theorem f_ag119 : aggT Tryd.prog 119 = some false := by kernel_rfl
@[simp] theorem f_ib119 : isBoolT Tryd.prog 119 = false := by kernel_rfl
@[simp] theorem f_is119 : isSlT Tryd.prog 119 = false := by kernel_rfl
@[simp] theorem f_by119 : byT Tryd.prog 119 = some 8 := by kernel_rfl
@[simp] theorem f_z119 : zT Tryd.prog 119 = some [.nilFunc] := by kernel_rfl
@[simp] theorem f_sz120 : szT Tryd.prog 120 = some 1 := by kernel_rfl
@[simp] theorem f_ag120 : aggT Tryd.prog 120 = some false := by kernel_rfl
@[simp] theorem f_ib120 : isBoolT Tryd.prog 120 = false := by kernel_rfl
@[simp] theorem f_is120 : isSlT Tryd.prog 120 = false := by kernel_rfl
@[simp] theorem f_by120 : byT Tryd.prog 120 = some 8 := by kernel_rfl
@[simp] theorem f_z120 : zT Tryd.prog 120 = some [.nilFunc] := by kernel_rfl
@[simp] theorem f_sz121 : szT Tryd.prog 121 = some 1 := by kernel_rfl
@[simp] theorem f_ag121 : aggT Tryd.prog 121 = some false := by kernel_rfl
@[simp] theorem f_ib121 : isBoolT Tryd.prog 121 = false := by kernel_rfl
@[simp] theorem f_is121 : isSlT Tryd.prog 121 = false := by kernel_rfl
@[simp] theorem f_by121 : byT Tryd.prog 121 = some 8 := by kernel_rfl
@[simp] theorem f_z121 : zT Tryd.prog 121 = some [.nilFunc] := by kernel_rfl
@[simp] theorem f_sz122 : szT Tryd.prog 122 = some 1 := by kernel_rfl
@[simp] theorem f_ag122 : aggT Tryd.prog 122 = some false := by kernel_rfl
@[simp] theorem f_ib122 : isBoolT Tryd.prog 122 = false := by kernel_rfl
@[simp] theorem f_is122 : isSlT Tryd.prog 122 = false := by kernel_rfl
@[simp] theorem f_by122 : byT Tryd.prog 122 = some 8 := by kernel_rfl
@[simp] theorem f_z122 : zT Tryd.prog 122 = some [.nilFunc] := by kernel_rfl
@[simp] theorem f_sz123 : szT Tryd.prog 123 = some 1 := by kernel_rfl
@[simp] theorem f_ag123 : aggT Tryd.prog 123 = some false := by kernel_rfl
@[simp] theorem f_ib123 : isBoolT Tryd.prog 123 = false := by kernel_rfl
@[simp] theorem f_is123 : isSlT Tryd.prog 123 = false := by kernel_rfl
@[simp] theorem f_by123 : byT Tryd.prog 123 = some 8 := by kernel_rfl
@[simp] theorem f_z123 : zT Tryd.prog 123 = some [.nilFunc] := by kernel_rfl
@[simp] theorem f_sz124 : szT Tryd.prog 124 = some 1 := by kernel_rfl
@[simp] theorem f_ag124 : aggT Tryd.prog 124 = some false := by kernel_rfl
@[simp] theorem f_ib124 : isBoolT Tryd.prog 124 = false := by kernel_rfl
@[simp] theorem f_is124 : isSlT Tryd.prog 124 = false := by kernel_rfl
@[simp] theorem f_by124 : byT Tryd.prog 124 = some 8 := by kernel_rfl
@[simp] theorem f_z124 : zT Tryd.prog 124 = some [.nilFunc] := by kernel_rfl
@[simp] theorem f_sz125 : szT Tryd.prog 125 = some 1 := by kernel_rfl
@[simp] theorem f_ag125 : aggT Tryd.prog 125 = some false := by kernel_rfl
@[simp] theorem f_ib125 : isBoolT Tryd.prog 125 = false := by kernel_rfl
@[simp] theorem f_is125 : isSlT Tryd.prog 125 = false := by kernel_rfl
@[simp] theorem f_by125 : byT Tryd.prog 125 = some 8 := by kernel_rfl
@[simp] theorem f_z125 : zT Tryd.prog 125 = some [.nilFunc] := by kernel_rfl
@[simp] theorem f_sz126 : szT Tryd.prog 126 = some 1 := by kernel_rfl
@[simp] theorem f_ag126 : aggT Tryd.prog 126 = some false := by kernel_rfl
@[simp] theorem f_ib126 : isBoolT Tryd.prog 126 = false := by kernel_rfl
@[simp] theorem f_is126 : isSlT Tryd.prog 126 = false := by kernel_rfl
@[simp] theorem f_by126 : byT Tryd.prog 126 = some 8 := by kernel_rfl
@[simp] theorem f_z126 : zT Tryd.prog 126 = some [.nilFunc] := by kernel_rfl
@[simp] theorem f_sz127 : szT Tryd.prog 127 = some 1 := by kernel_rfl
@[simp] theorem f_ag127 : aggT Tryd.prog 127 = some false := by kernel_rfl
@[simp] theorem f_ib127 : isBoolT Tryd.prog 127 = false := by kernel_rfl
@[simp] theorem f_is127 : isSlT Tryd.prog 127 = false := by kernel_rfl
@[simp] theorem f_by127 : byT Tryd.prog 127 = some 8 := by kernel_rfl
@[simp] theorem f_z127 : zT Tryd.prog 127 = some [.nilFunc] := by kernel_rfl
@[simp] theorem f_sz128 : szT Tryd.prog 128 = some 1 := by kernel_rfl
@[simp] theorem f_ag128 : aggT Tryd.prog 128 = some false := by kernel_rfl
@[simp] theorem f_ib128 : isBoolT Tryd.prog 128 = false := by kernel_rfl
@[simp] theorem f_is128 : isSlT Tryd.prog 128 = false := by kernel_rfl
@[simp] theorem f_by128 : byT Tryd.prog 128 = some 4 := by kernel_rfl
@[simp] theorem f_z128 : zT Tryd.prog 128 = some [.int .u32 0] := by kernel_rfl
@[simp] theorem f_sz129 : szT Tryd.prog 129 = some 1 := by kernel_rfl
@[simp] theorem f_ag129 : aggT Tryd.prog 129 = some false := by kernel_rfl
@[simp] theorem f_ib129 : isBoolT Tryd.prog 129 = false := by kernel_rfl
@[simp] theorem f_is129 : isSlT Tryd.prog 129 = false := by kernel_rfl
@[simp] theorem f_by129 : byT Tryd.prog 129 = some 8 := by kernel_rfl
@[simp] theorem f_z129 : zT Tryd.prog 129 = some [.nilFunc] := by kernel_rfl
@[simp] theorem f_sz130 : szT Tryd.prog 130 = some 1 := by kernel_rfl
@[simp] theorem f_ag130 : aggT Tryd.prog 130 = some false := by kernel_rfl
@[simp] theorem f_ib130 : isBoolT Tryd.prog 130 = false := by kernel_rfl
@[simp] theorem f_is130 : isSlT Tryd.prog 130 = false := by kernel_rfl
@[simp] theorem f_by130 : byT Tryd.prog 130 = some 8 := by kernel_rfl
@[simp] theorem f_z130 : zT Tryd.prog 130 = some [.int .u64 0] := by kernel_rfl
@[simp] theorem f_sz131 : szT Tryd.prog 131 = some 1 := by kernel_rfl
@[simp] theorem f_ag131 : aggT Tryd.prog 131 = some false := by kernel_rfl
@[simp] theorem f_ib131 : isBoolT Tryd.prog 131 = false := by kernel_rfl
@[simp] theorem f_is131 : isSlT Tryd.prog 131 = false := by kernel_rfl
@[simp] theorem f_by131 : byT Tryd.prog 131 = some 8 := by kernel_rfl
@[simp] theorem f_z131 : zT Tryd.prog 131 = some [.nilFunc] := by kernel_rfl
@[simp] theorem f_sz132 : szT Tryd.prog 132 = some 1 := by kernel_rfl
@[simp] theorem f_ag132 : aggT Tryd.prog 132 = some false := by kernel_rfl
@[simp] theorem f_ib132 : isBoolT Tryd.prog 132 = false := by kernel_rfl
@[simp] theorem f_is132 : isSlT Tryd.prog 132 = false := by kernel_rfl
@[simp] theorem f_by132 : byT Tryd.prog 132 = some 8 := by kernel_rfl
@[simp] theorem f_z132 : zT Tryd.prog 132 = some [.nilFunc] := by kernel_rfl
@[simp] theorem f_sz133 : szT Tryd.prog 133 = some 1 := by kernel_rfl
@[simp] theorem f_ag133 : aggT Tryd.prog 133 = some false := by kernel_rfl
@[simp] theorem f_ib133 : isBoolT Tryd.prog 133 = false := by kernel_rfl
@[simp] theorem f_is133 : isSlT Tryd.prog 133 = false := by kernel_rfl
@[simp] theorem f_by133 : byT Tryd.prog 133 = some 8 := by kernel_rfl
@[simp] theorem f_z133 : zT Tryd.prog 133 = some [.nilFunc] := by kernel_rfl
@[simp] theorem f_sz134 : szT Tryd.prog 134 = some 32 := by kernel_rfl
@[simp] theorem f_ag134 : aggT Tryd.prog 134 = some true := by kernel_rfl
@[simp] theorem f_ib134 : isBoolT Tryd.prog 134 = false := by kernel_rfl
@[simp] theorem f_is134 : isSlT Tryd.prog 134 = false := by kernel_rfl
@[simp] theorem f_z134 : zT Tryd.prog 134 = some (List.replicate 32 (.int .u8 0)) := by kernel_rfl
@[simp] theorem f_ar134 : arT Tryd.prog 134 = some (32, 1) := by kernel_rfl
@[simp] theorem f_arA134 : arA Tryd.prog 134 = some false := by kernel_rfl
@[simp] theorem f_ok134 : fldsOk Tryd.prog 134 = true := by kernel_rfl
@[simp] theorem f_sz135 : szT Tryd.prog 135 = some 64 := by kernel_rfl
@[simp] theorem f_ag135 : aggT Tryd.prog 135 = some true := by kernel_rfl
@[simp] theorem f_ib135 : isBoolT Tryd.prog 135 = false := by kernel_rfl
@[simp] theorem f_is135 : isSlT Tryd.prog 135 = false := by kernel_rfl
@[simp] theorem f_z135 : zT Tryd.prog 135 = some (List.replicate 64 (.int .u8 0)) := by kernel_rfl
@[simp] theorem f_ar135 : arT Tryd.prog 135 = some (64, 1) := by kernel_rfl
@[simp] theorem f_arA135 : arA Tryd.prog 135 = some false := by kernel_rfl
@[simp] theorem f_ok135 : fldsOk Tryd.prog 135 = true := by kernel_rfl
@[simp] theorem f_sz136 : szT Tryd.prog 136 = some 1 := by kernel_rfl
@[simp] theorem f_ag136 : aggT Tryd.prog 136 = some false := by kernel_rfl
@[simp] theorem f_ib136 : isBoolT Tryd.prog 136 = false := by kernel_rfl
@[simp] theorem f_is136 : isSlT Tryd.prog 136 = false := by kernel_rfl
@[simp] theorem f_by136 : byT Tryd.prog 136 = some 8 := by kernel_rfl
@[simp] theorem f_z136 : zT Tryd.prog 136 = some [.nilFunc] := by kernel_rfl
@[simp] theorem f_sz137 : szT Tryd.prog 137 = some 1 := by kernel_rfl
@[simp] theorem f_ag137 : aggT Tryd.prog 137 = some false := by kernel_rfl
@[simp] theorem f_ib137 : isBoolT Tryd.prog 137 = false := by kernel_rfl
@[simp] theorem f_is137 : isSlT Tryd.prog 137 = false := by kernel_rfl
@[simp] theorem f_by137 : byT Tryd.prog 137 = some 8 := by kernel_rfl
@[simp] theorem f_z137 : zT Tryd.prog 137 = some [.nilFunc] := by kernel_rfl
@[simp] theorem f_sz138 : szT Tryd.prog 138 = some 1 := by kernel_rfl
@[simp] theorem f_ag138 : aggT Tryd.prog 138 = some false := by kernel_rfl
@[simp] theorem f_ib138 : isBoolT Tryd.prog 138 = false := by kernel_rfl
@[simp] theorem f_is138 : isSlT Tryd.prog 138 = false := by kernel_rfl
@[simp] theorem f_by138 : byT Tryd.prog 138 = some 8 := by kernel_rfl
@[simp] theorem f_z138 : zT Tryd.prog 138 = some [.int .i64 0] := by kernel_rfl
@[simp] theorem f_mp88 : mapT Tryd.prog 88 = some (50, 3) := by kernel_rfl
@[simp] theorem f_kk50 : keyK Tryd.prog 50 = some (.wide 3) := by kernel_rfl
@[simp] theorem f_zv3 : zV Tryd.prog 3 = some (.int .i64 0) := by kernel_rfl
@[simp] theorem f_mp109 : mapT Tryd.prog 109 = some (50, 4) := by kernel_rfl
@[simp] theorem f_zv4 : zV Tryd.prog 4 = some (.bool false) := by kernel_rfl
@[simp] theorem f_eq30 : eqT Tryd.prog 30 = some 2 := by kernel_rfl
@[simp] theorem f_eq47 : eqT Tryd.prog 47 = some 3 := by kernel_rfl
@[simp] theorem f_eq48 : eqT Tryd.prog 48 = some 3 := by kernel_rfl
@[simp] theorem f_eq50 : eqT Tryd.prog 50 = some 3 := by kernel_rfl
@[simp] theorem f_eq102 : eqT Tryd.prog 102 = some 8 := by kernel_rfl
@[simp] theorem f_cv3_39 : cvT Tryd.prog 3 39 = some .u64 := by kernel_rfl
@[simp] theorem f_cv5_3 : cvT Tryd.prog 5 3 = some .i64 := by kernel_rfl
@[simp] theorem f_cv39_3 : cvT Tryd.prog 39 3 = some .i64 := by kernel_rfl
@[simp] theorem f_cv39_128 : cvT Tryd.prog 39 128 = some .u32 := by kernel_rfl
@[simp] theorem f_cv128_5 : cvT Tryd.prog 128 5 = some .u8 := by kernel_rfl
@[simp] theorem f_cv130_5 : cvT Tryd.prog 130 5 = some .u8 := by kernel_rfl
@[simp] theorem nt3 : Tryd.f3.ntmps = 44 := rfl
@[simp] theorem re3 : Tryd.f3.results.toList = [.tmp 2] := rfl
theorem call3 : Callable Tryd.prog 3 := callable_of Tryd.func3 rfl (by kernel_rfl)
@[simp] theorem nt4 : Tryd.f4.ntmps = 83 := rfl
@[simp] theorem re4 : Tryd.f4.results.toList = [.tmp 4] := rfl
theorem call4 : Callable Tryd.prog 4 := callable_of Tryd.func4 rfl (by kernel_rfl)
@[simp] theorem nt5 : Tryd.f5.ntmps = 78 := rfl
@[simp] theorem re5 : Tryd.f5.results.toList = [.tmp 4] := rfl
theorem call5 : Callable Tryd.prog 5 := callable_of Tryd.func5 rfl (by kernel_rfl)
@[simp] theorem nt6 : Tryd.f6.ntmps = 69 := rfl
@[simp] theorem re6 : Tryd.f6.results.toList = [.tmp 4] := rfl
theorem call6 : Callable Tryd.prog 6 := callable_of Tryd.func6 rfl (by kernel_rfl)
@[simp] theorem nt7 : Tryd.f7.ntmps = 85 := rfl
@[simp] theorem re7 : Tryd.f7.results.toList = [.tmp 6] := rfl
theorem call7 : Callable Tryd.prog 7 := callable_of Tryd.func7 rfl (by kernel_rfl)
@[simp] theorem nt8 : Tryd.f8.ntmps = 196 := rfl
@[simp] theorem re8 : Tryd.f8.results.toList = [.tmp 8] := rfl
theorem call8 : Callable Tryd.prog 8 := callable_of Tryd.func8 rfl (by kernel_rfl)
@[simp] theorem nt9 : Tryd.f9.ntmps = 50 := rfl
@[simp] theorem re9 : Tryd.f9.results.toList = [.tmp 4] := rfl
theorem call9 : Callable Tryd.prog 9 := callable_of Tryd.func9 rfl (by kernel_rfl)
@[simp] theorem nt10 : Tryd.f10.ntmps = 55 := rfl
@[simp] theorem re10 : Tryd.f10.results.toList = [.tmp 6] := rfl
theorem call10 : Callable Tryd.prog 10 := callable_of Tryd.func10 rfl (by kernel_rfl)
@[simp] theorem nt11 : Tryd.f11.ntmps = 180 := rfl
@[simp] theorem re11 : Tryd.f11.results.toList = [.tmp 4] := rfl
theorem call11 : Callable Tryd.prog 11 := callable_of Tryd.func11 rfl (by kernel_rfl)
@[simp] theorem nt12 : Tryd.f12.ntmps = 98 := rfl
@[simp] theorem re12 : Tryd.f12.results.toList = [.tmp 6] := rfl
theorem call12 : Callable Tryd.prog 12 := callable_of Tryd.func12 rfl (by kernel_rfl)
@[simp] theorem nt13 : Tryd.f13.ntmps = 99 := rfl
@[simp] theorem re13 : Tryd.f13.results.toList = [.tmp 4] := rfl
theorem call13 : Callable Tryd.prog 13 := callable_of Tryd.func13 rfl (by kernel_rfl)
@[simp] theorem nt14 : Tryd.f14.ntmps = 108 := rfl
@[simp] theorem re14 : Tryd.f14.results.toList = [.tmp 2] := rfl
theorem call14 : Callable Tryd.prog 14 := callable_of Tryd.func14 rfl (by kernel_rfl)
@[simp] theorem nt15 : Tryd.f15.ntmps = 26 := rfl
@[simp] theorem re15 : Tryd.f15.results.toList = [.tmp 4, .tmp 5] := rfl
theorem call15 : Callable Tryd.prog 15 := callable_of Tryd.func15 rfl (by kernel_rfl)
@[simp] theorem nt16 : Tryd.f16.ntmps = 9 := rfl
@[simp] theorem re16 : Tryd.f16.results.toList = [.tmp 2] := rfl
theorem call16 : Callable Tryd.prog 16 := callable_of Tryd.func16 rfl (by kernel_rfl)
@[simp] theorem nt17 : Tryd.f17.ntmps = 14 := rfl
@[simp] theorem re17 : Tryd.f17.results.toList = [.tmp 0] := rfl
theorem call17 : Callable Tryd.prog 17 := callable_of Tryd.func17 rfl (by kernel_rfl)
@[simp] theorem nt18 : Tryd.f18.ntmps = 28 := rfl
@[simp] theorem re18 : Tryd.f18.results.toList = [.cell 4 30, .tmp 5] := rfl
theorem call18 : Callable Tryd.prog 18 := callable_of Tryd.func18 rfl (by kernel_rfl)
@[simp] theorem nt19 : Tryd.f19.ntmps = 18 := rfl
@[simp] theorem re19 : Tryd.f19.results.toList = [.tmp 2] := rfl
theorem call19 : Callable Tryd.prog 19 := callable_of Tryd.func19 rfl (by kernel_rfl)
@[simp] theorem nt20 : Tryd.f20.ntmps = 80 := rfl
@[simp] theorem re20 : Tryd.f20.results.toList = [.tmp 4, .cell 5 30, .tmp 6] := rfl
theorem call20 : Callable Tryd.prog 20 := callable_of Tryd.func20 rfl (by kernel_rfl)
@[simp] theorem nt21 : Tryd.f21.ntmps = 58 := rfl
@[simp] theorem re21 : Tryd.f21.results.toList = [.tmp 4, .tmp 5] := rfl
theorem call21 : Callable Tryd.prog 21 := callable_of Tryd.func21 rfl (by kernel_rfl)
@[simp] theorem nt22 : Tryd.f22.ntmps = 35 := rfl
@[simp] theorem re22 : Tryd.f22.results.toList = [.tmp 4] := rfl
theorem call22 : Callable Tryd.prog 22 := callable_of Tryd.func22 rfl (by kernel_rfl)
@[simp] theorem nt23 : Tryd.f23.ntmps = 8 := rfl
@[simp] theorem re23 : Tryd.f23.results.toList = [.tmp 2] := rfl
theorem call23 : Callable Tryd.prog 23 := callable_of Tryd.func23 rfl (by kernel_rfl)
@[simp] theorem nt24 : Tryd.f24.ntmps = 62 := rfl
@[simp] theorem re24 : Tryd.f24.results.toList = [.tmp 4, .tmp 5] := rfl
theorem call24 : Callable Tryd.prog 24 := callable_of Tryd.func24 rfl (by kernel_rfl)
@[simp] theorem nt25 : Tryd.f25.ntmps = 132 := rfl
@[simp] theorem re25 : Tryd.f25.results.toList = [.tmp 6] := rfl
theorem call25 : Callable Tryd.prog 25 := callable_of Tryd.func25 rfl (by kernel_rfl)
@[simp] theorem nt26 : Tryd.f26.ntmps = 24 := rfl
@[simp] theorem re26 : Tryd.f26.results.toList = [.tmp 2] := rfl
theorem call26 : Callable Tryd.prog 26 := callable_of Tryd.func26 rfl (by kernel_rfl)
@[simp] theorem nt27 : Tryd.f27.ntmps = 27 := rfl
@[simp] theorem re27 : Tryd.f27.results.toList = [.tmp 6, .tmp 7] := rfl
theorem call27 : Callable Tryd.prog 27 := callable_of Tryd.func27 rfl (by kernel_rfl)
@[simp] theorem nt28 : Tryd.f28.ntmps = 10 := rfl
@[simp] theorem re28 : Tryd.f28.results.toList = [.cell 2 50] := rfl
theorem call28 : Callable Tryd.prog 28 := callable_of Tryd.func28 rfl (by kernel_rfl)
@[simp] theorem nt29 : Tryd.f29.ntmps = 61 := rfl
@[simp] theorem re29 : Tryd.f29.results.toList = [.cell 6 30, .tmp 7] := rfl
theorem call29 : Callable Tryd.prog 29 := callable_of Tryd.func29 rfl (by kernel_rfl)
@[simp] theorem nt30 : Tryd.f30.ntmps = 23 := rfl
@[simp] theorem re30 : Tryd.f30.results.toList = [.tmp 6] := rfl
theorem call30 : Callable Tryd.prog 30 := callable_of Tryd.func30 rfl (by kernel_rfl)
@[simp] theorem nt31 : Tryd.f31.ntmps = 68 := rfl
@[simp] theorem re31 : Tryd.f31.results.toList = [.cell 6 30, .tmp 7] := rfl
theorem call31 : Callable Tryd.prog 31 := callable_of Tryd.func31 rfl (by kernel_rfl)
@[simp] theorem nt32 : Tryd.f32.ntmps = 96 := rfl
@[simp] theorem re32 : Tryd.f32.results.toList = [.tmp 4] := rfl
theorem call32 : Callable Tryd.prog 32 := callable_of Tryd.func32 rfl (by kernel_rfl)
@[simp] theorem nt33 : Tryd.f33.ntmps = 8 := rfl
@[simp] theorem re33 : Tryd.f33.results.toList = [.tmp 4] := rfl
theorem call33 : Callable Tryd.prog 33 := callable_of Tryd.func33 rfl (by kernel_rfl)
@[simp] theorem nt34 : Tryd.f34.ntmps = 17 := rfl
@[simp] theorem re34 : Tryd.f34.results.toList = [.tmp 5] := rfl
theorem call34 : Callable Tryd.prog 34 := callable_of Tryd.func34 rfl (by kernel_rfl)
@[simp] theorem nt35 : Tryd.f35.ntmps = 26 := rfl
@[simp] theorem re35 : Tryd.f35.results.toList = [.tmp 4] := rfl
theorem call35 : Callable Tryd.prog 35 := callable_of Tryd.func35 rfl (by kernel_rfl)
@[simp] theorem nt36 : Tryd.f36.ntmps = 32 := rfl
@[simp] theorem re36 : Tryd.f36.results.toList = [.tmp 4] := rfl
theorem call36 : Callable Tryd.prog 36 := callable_of Tryd.func36 rfl (by kernel_rfl)
@[simp] theorem nt37 : Tryd.f37.ntmps = 109 := rfl
@[simp] theorem re37 : Tryd.f37.results.toList = [.tmp 6, .tmp 7] := rfl
theorem call37 : Callable Tryd.prog 37 := callable_of Tryd.func37 rfl (by kernel_rfl)
@[simp] theorem nt38 : Tryd.f38.ntmps = 22 := rfl
@[simp] theorem re38 : Tryd.f38.results.toList = [.tmp 2] := rfl
theorem call38 : Callable Tryd.prog 38 := callable_of Tryd.func38 rfl (by kernel_rfl)
@[simp] theorem nt39 : Tryd.f39.ntmps = 15 := rfl
@[simp] theorem re39 : Tryd.f39.results.toList = [.tmp 2, .tmp 3] := rfl
theorem call39 : Callable Tryd.prog 39 := callable_of Tryd.func39 rfl (by kernel_rfl)
@[simp] theorem nt40 : Tryd.f40.ntmps = 13 := rfl
@[simp] theorem re40 : Tryd.f40.results.toList = [.tmp 2] := rfl
theorem call40 : Callable Tryd.prog 40 := callable_of Tryd.func40 rfl (by kernel_rfl)
@[simp] theorem nt41 : Tryd.f41.ntmps = 9 := rfl
@[simp] theorem re41 : Tryd.f41.results.toList = [.tmp 4] := rfl
theorem call41 : Callable Tryd.prog 41 := callable_of Tryd.func41 rfl (by kernel_rfl)
@[simp] theorem nt42 : Tryd.f42.ntmps = 59 := rfl
@[simp] theorem re42 : Tryd.f42.results.toList = [.tmp 2, .tmp 3] := rfl
theorem call42 : Callable Tryd.prog 42 := callable_of Tryd.func42 rfl (by kernel_rfl)
@[simp] theorem nt43 : Tryd.f43.ntmps = 59 := rfl
@[simp] theorem re43 : Tryd.f43.results.toList = [.tmp 4, .tmp 5] := rfl
theorem call43 : Callable Tryd.prog 43 := callable_of Tryd.func43 rfl (by kernel_rfl)
@[simp] theorem nt44 : Tryd.f44.ntmps = 9 := rfl
@[simp] theorem re44 : Tryd.f44.results.toList = [.tmp 2] := rfl
theorem call44 : Callable Tryd.prog 44 := callable_of Tryd.func44 rfl (by kernel_rfl)
@[simp] theorem nt45 : Tryd.f45.ntmps = 14 := rfl
@[simp] theorem re45 : Tryd.f45.results.toList = [.tmp 2, .tmp 3] := rfl
theorem call45 : Callable Tryd.prog 45 := callable_of Tryd.func45 rfl (by kernel_rfl)
@[simp] theorem nt46 : Tryd.f46.ntmps = 26 := rfl
@[simp] theorem re46 : Tryd.f46.results.toList = [.tmp 4] := rfl
theorem call46 : Callable Tryd.prog 46 := callable_of Tryd.func46 rfl (by kernel_rfl)
@[simp] theorem nt47 : Tryd.f47.ntmps = 58 := rfl
@[simp] theorem re47 : Tryd.f47.results.toList = [.tmp 4] := rfl
theorem call47 : Callable Tryd.prog 47 := callable_of Tryd.func47 rfl (by kernel_rfl)
@[simp] theorem nt48 : Tryd.f48.ntmps = 37 := rfl
@[simp] theorem re48 : Tryd.f48.results.toList = [.tmp 2] := rfl
theorem call48 : Callable Tryd.prog 48 := callable_of Tryd.func48 rfl (by kernel_rfl)
@[simp] theorem nt49 : Tryd.f49.ntmps = 26 := rfl
@[simp] theorem re49 : Tryd.f49.results.toList = [.tmp 4, .tmp 5] := rfl
theorem call49 : Callable Tryd.prog 49 := callable_of Tryd.func49 rfl (by kernel_rfl)
@[simp] theorem nt50 : Tryd.f50.ntmps = 33 := rfl
@[simp] theorem re50 : Tryd.f50.results.toList = [.cell 2 30, .tmp 3] := rfl
theorem call50 : Callable Tryd.prog 50 := callable_of Tryd.func50 rfl (by kernel_rfl)
@[simp] theorem nt51 : Tryd.f51.ntmps = 65 := rfl
@[simp] theorem re51 : Tryd.f51.results.toList = [.tmp 4] := rfl
theorem call51 : Callable Tryd.prog 51 := callable_of Tryd.func51 rfl (by kernel_rfl)
@[simp] theorem nt52 : Tryd.f52.ntmps = 36 := rfl
@[simp] theorem re52 : Tryd.f52.results.toList = [.tmp 6] := rfl
theorem call52 : Callable Tryd.prog 52 := callable_of Tryd.func52 rfl (by kernel_rfl)
@[simp] theorem nt53 : Tryd.f53.ntmps = 17 := rfl
@[simp] theorem re53 : Tryd.f53.results.toList = [.tmp 4] := rfl
theorem call53 : Callable Tryd.prog 53 := callable_of Tryd.func53 rfl (by kernel_rfl)
@[simp] theorem nt54 : Tryd.f54.ntmps = 91 := rfl
@[simp] theorem re54 : Tryd.f54.results.toList = [.tmp 2, .tmp 3] := rfl
theorem call54 : Callable Tryd.prog 54 := callable_of Tryd.func54 rfl (by kernel_rfl)
@[simp] theorem nt55 : Tryd.f55.ntmps = 7 := rfl
@[simp] theorem re55 : Tryd.f55.results.toList = [.tmp 2] := rfl
theorem call55 : Callable Tryd.prog 55 := callable_of Tryd.func55 rfl (by kernel_rfl)
@[simp] theorem nt56 : Tryd.f56.ntmps = 17 := rfl
@[simp] theorem re56 : Tryd.f56.results.toList = [.tmp 2] := rfl
theorem call56 : Callable Tryd.prog 56 := callable_of Tryd.func56 rfl (by kernel_rfl)
@[simp] theorem nt57 : Tryd.f57.ntmps = 26 := rfl
@[simp] theorem re57 : Tryd.f57.results.toList = [.tmp 8] := rfl
theorem call57 : Callable Tryd.prog 57 := callable_of Tryd.func57 rfl (by kernel_rfl)
@[simp] theorem nt58 : Tryd.f58.ntmps = 42 := rfl
@[simp] theorem re58 : Tryd.f58.results.toList = [.tmp 2] := rfl
theorem call58 : Callable Tryd.prog 58 := callable_of Tryd.func58 rfl (by kernel_rfl)
@[simp] theorem nt59 : Tryd.f59.ntmps = 18 := rfl
@[simp] theorem re59 : Tryd.f59.results.toList = [.tmp 4] := rfl
theorem call59 : Callable Tryd.prog 59 := callable_of Tryd.func59 rfl (by kernel_rfl)
@[simp] theorem nt60 : Tryd.f60.ntmps = 48 := rfl
@[simp] theorem re60 : Tryd.f60.results.toList = [.tmp 6] := rfl
theorem call60 : Callable Tryd.prog 60 := callable_of Tryd.func60 rfl (by kernel_rfl)
@[simp] theorem nt61 : Tryd.f61.ntmps = 15 := rfl
@[simp] theorem re61 : Tryd.f61.results.toList = [.tmp 2] := rfl
theorem call61 : Callable Tryd.prog 61 := callable_of Tryd.func61 rfl (by kernel_rfl)
@[simp] theorem nt62 : Tryd.f62.ntmps = 77 := rfl
@[simp] theorem re62 : Tryd.f62.results.toList = [.tmp 6] := rfl
theorem call62 : Callable Tryd.prog 62 := callable_of Tryd.func62 rfl (by kernel_rfl)
@[simp] theorem nt63 : Tryd.f63.ntmps = 31 := rfl
@[simp] theorem re63 : Tryd.f63.results.toList = [.tmp 4] := rfl
theorem call63 : Callable Tryd.prog 63 := callable_of Tryd.func63 rfl (by kernel_rfl)
@[simp] theorem nt64 : Tryd.f64.ntmps = 51 := rfl
@[simp] theorem re64 : Tryd.f64.results.toList = [.tmp 4] := rfl
theorem call64 : Callable Tryd.prog 64 := callable_of Tryd.func64 rfl (by kernel_rfl)
@[simp] theorem nt65 : Tryd.f65.ntmps = 61 := rfl
@[simp] theorem re65 : Tryd.f65.results.toList = [.tmp 6] := rfl
theorem call65 : Callable Tryd.prog 65 := callable_of Tryd.func65 rfl (by kernel_rfl)
@[simp] theorem nt66 : Tryd.f66.ntmps = 54 := rfl
@[simp] theorem re66 : Tryd.f66.results.toList = [.tmp 6, .tmp 7] := rfl
theorem call66 : Callable Tryd.prog 66 := callable_of Tryd.func66 rfl (by kernel_rfl)
@[simp] theorem nt67 : Tryd.f67.ntmps = 43 := rfl
@[simp] theorem re67 : Tryd.f67.results.toList = [.tmp 4] := rfl
theorem call67 : Callable Tryd.prog 67 := callable_of Tryd.func67 rfl (by kernel_rfl)
@[simp] theorem nt68 : Tryd.f68.ntmps = 24 := rfl
@[simp] theorem re68 : Tryd.f68.results.toList = [.tmp 6] := rfl
theorem call68 : Callable Tryd.prog 68 := callable_of Tryd.func68 rfl (by kernel_rfl)
@[simp] theorem nt69 : Tryd.f69.ntmps = 38 := rfl
@[simp] theorem re69 : Tryd.f69.results.toList = [.tmp 8] := rfl
theorem call69 : Callable Tryd.prog 69 := callable_of Tryd.func69 rfl (by kernel_rfl)
@[simp] theorem nt70 : Tryd.f70.ntmps = 15 := rfl
@[simp] theorem re70 : Tryd.f70.results.toList = [.tmp 2] := rfl
theorem call70 : Callable Tryd.prog 70 := callable_of Tryd.func70 rfl (by kernel_rfl)
@[simp] theorem nt71 : Tryd.f71.ntmps = 10 := rfl
@[simp] theorem re71 : Tryd.f71.results.toList = [.tmp 5] := rfl
theorem call71 : Callable Tryd.prog 71 := callable_of Tryd.func71 rfl (by kernel_rfl)
@[simp] theorem nt72 : Tryd.f72.ntmps = 9 := rfl
@[simp] theorem re72 : Tryd.f72.results.toList = [.tmp 4] := rfl
theorem call72 : Callable Tryd.prog 72 := callable_of Tryd.func72 rfl (by kernel_rfl)
@[simp] theorem nt73 : Tryd.f73.ntmps = 13 := rfl
@[simp] theorem re73 : Tryd.f73.results.toList = [.tmp 4] := rfl
theorem call73 : Callable Tryd.prog 73 := callable_of Tryd.func73 rfl (by kernel_rfl)
@[simp] theorem nt74 : Tryd.f74.ntmps = 22 := rfl
@[simp] theorem re74 : Tryd.f74.results.toList = [.tmp 2] := rfl
theorem call74 : Callable Tryd.prog 74 := callable_of Tryd.func74 rfl (by kernel_rfl)
@[simp] theorem nt75 : Tryd.f75.ntmps = 19 := rfl
@[simp] theorem re75 : Tryd.f75.results.toList = [.tmp 4] := rfl
theorem call75 : Callable Tryd.prog 75 := callable_of Tryd.func75 rfl (by kernel_rfl)
@[simp] theorem nt76 : Tryd.f76.ntmps = 8 := rfl
@[simp] theorem re76 : Tryd.f76.results.toList = [.tmp 2] := rfl
theorem call76 : Callable Tryd.prog 76 := callable_of Tryd.func76 rfl (by kernel_rfl)
@[simp] theorem nt77 : Tryd.f77.ntmps = 11 := rfl
@[simp] theorem re77 : Tryd.f77.results.toList = [.tmp 6] := rfl
theorem call77 : Callable Tryd.prog 77 := callable_of Tryd.func77 rfl (by kernel_rfl)
@[simp] theorem nt78 : Tryd.f78.ntmps = 8 := rfl
@[simp] theorem re78 : Tryd.f78.results.toList = [.tmp 2] := rfl
theorem call78 : Callable Tryd.prog 78 := callable_of Tryd.func78 rfl (by kernel_rfl)
@[simp] theorem nt79 : Tryd.f79.ntmps = 13 := rfl
@[simp] theorem re79 : Tryd.f79.results.toList = [.tmp 4] := rfl
theorem call79 : Callable Tryd.prog 79 := callable_of Tryd.func79 rfl (by kernel_rfl)
@[simp] theorem nt80 : Tryd.f80.ntmps = 8 := rfl
@[simp] theorem re80 : Tryd.f80.results.toList = [.tmp 2] := rfl
theorem call80 : Callable Tryd.prog 80 := callable_of Tryd.func80 rfl (by kernel_rfl)
@[simp] theorem nt81 : Tryd.f81.ntmps = 69 := rfl
@[simp] theorem re81 : Tryd.f81.results.toList = [.tmp 6] := rfl
theorem call81 : Callable Tryd.prog 81 := callable_of Tryd.func81 rfl (by kernel_rfl)
@[simp] theorem nt82 : Tryd.f82.ntmps = 19 := rfl
@[simp] theorem re82 : Tryd.f82.results.toList = [.tmp 6] := rfl
theorem call82 : Callable Tryd.prog 82 := callable_of Tryd.func82 rfl (by kernel_rfl)
@[simp] theorem nt83 : Tryd.f83.ntmps = 97 := rfl
@[simp] theorem re83 : Tryd.f83.results.toList = [.tmp 4] := rfl
theorem call83 : Callable Tryd.prog 83 := callable_of Tryd.func83 rfl (by kernel_rfl)
@[simp] theorem nt84 : Tryd.f84.ntmps = 31 := rfl
@[simp] theorem re84 : Tryd.f84.results.toList = [.tmp 4] := rfl
theorem call84 : Callable Tryd.prog 84 := callable_of Tryd.func84 rfl (by kernel_rfl)
@[simp] theorem nt85 : Tryd.f85.ntmps = 12 := rfl
@[simp] theorem re85 : Tryd.f85.results.toList = [.tmp 4] := rfl
theorem call85 : Callable Tryd.prog 85 := callable_of Tryd.func85 rfl (by kernel_rfl)
@[simp] theorem nt86 : Tryd.f86.ntmps = 14 := rfl
@[simp] theorem re86 : Tryd.f86.results.toList = [.cell 6 30] := rfl
theorem call86 : Callable Tryd.prog 86 := callable_of Tryd.func86 rfl (by kernel_rfl)
@[simp] theorem nt87 : Tryd.f87.ntmps = 14 := rfl
@[simp] theorem re87 : Tryd.f87.results.toList = [] := rfl
theorem call87 : Callable Tryd.prog 87 := callable_of Tryd.func87 rfl (by kernel_rfl)
@[simp] theorem nt88 : Tryd.f88.ntmps = 17 := rfl
@[simp] theorem re88 : Tryd.f88.results.toList = [.tmp 4] := rfl
theorem call88 : Callable Tryd.prog 88 := callable_of Tryd.func88 rfl (by kernel_rfl)
@[simp] theorem nt89 : Tryd.f89.ntmps = 18 := rfl
@[simp] theorem re89 : Tryd.f89.results.toList = [.tmp 2] := rfl
theorem call89 : Callable Tryd.prog 89 := callable_of Tryd.func89 rfl (by kernel_rfl)
@[simp] theorem nt90 : Tryd.f90.ntmps = 20 := rfl
@[simp] theorem re90 : Tryd.f90.results.toList = [.tmp 4] := rfl
theorem call90 : Callable Tryd.prog 90 := callable_of Tryd.func90 rfl (by kernel_rfl)
@[simp] theorem nt91 : Tryd.f91.ntmps = 61 := rfl
@[simp] theorem re91 : Tryd.f91.results.toList = [.tmp 2] := rfl
theorem call91 : Callable Tryd.prog 91 := callable_of Tryd.func91 rfl (by kernel_rfl)
@[simp] theorem nt92 : Tryd.f92.ntmps = 19 := rfl
@[simp] theorem re92 : Tryd.f92.results.toList = [.tmp 4] := rfl
theorem call92 : Callable Tryd.prog 92 := callable_of Tryd.func92 rfl (by kernel_rfl)
@[simp] theorem nt93 : Tryd.f93.ntmps = 9 := rfl
@[simp] theorem re93 : Tryd.f93.results.toList = [.tmp 4] := rfl
theorem call93 : Callable Tryd.prog 93 := callable_of Tryd.func93 rfl (by kernel_rfl)
@[simp] theorem nt94 : Tryd.f94.ntmps = 11 := rfl
@[simp] theorem re94 : Tryd.f94.results.toList = [.tmp 5] := rfl
theorem call94 : Callable Tryd.prog 94 := callable_of Tryd.func94 rfl (by kernel_rfl)
@[simp] theorem nt95 : Tryd.f95.ntmps = 14 := rfl
@[simp] theorem re95 : Tryd.f95.results.toList = [.tmp 2] := rfl
theorem call95 : Callable Tryd.prog 95 := callable_of Tryd.func95 rfl (by kernel_rfl)
@[simp] theorem nt96 : Tryd.f96.ntmps = 14 := rfl
@[simp] theorem re96 : Tryd.f96.results.toList = [.tmp 2] := rfl
theorem call96 : Callable Tryd.prog 96 := callable_of Tryd.func96 rfl (by kernel_rfl)
@[simp] theorem nt97 : Tryd.f97.ntmps = 9 := rfl
@[simp] theorem re97 : Tryd.f97.results.toList = [.tmp 4] := rfl
theorem call97 : Callable Tryd.prog 97 := callable_of Tryd.func97 rfl (by kernel_rfl)
@[simp] theorem nt98 : Tryd.f98.ntmps = 16 := rfl
@[simp] theorem re98 : Tryd.f98.results.toList = [.tmp 4] := rfl
theorem call98 : Callable Tryd.prog 98 := callable_of Tryd.func98 rfl (by kernel_rfl)
end Go.Proofs.YtgcncgocdfioiaaDoor
