/- The shelf's contract of math/bits.Len, laid at this dump (after the kit's laying tool's fashion). -/
import Derived.Shelf.SlSortCmp.Xorshift
import Derived.Test.YtpcmmjmoiplhjaaGreatDoorProg
namespace Go.Proofs
open Go.Shelf
def Tryz.bitsRen : Go.Shelf.Ren := ⟨fun | 15 => 165 | 28 => 231 | 29 => 232 | n => n, fun | 3 => 3 | 4 => 4 | 5 => 5 | 9 => 9 | 39 => 214 | 53 => 265 | 55 => 232 | n => n, fun | n => n⟩
theorem Tryz.bits15 : Go.Proofs.SlLaysF0.n15 Tryz.prog Tryz.bitsRen := {
  mixed := by kernel_rfl
  f15 := Tryz.func165.trans (congrArg some (by kernel_rfl))
  f28 := Tryz.func231.trans (congrArg some (by kernel_rfl))
  f29 := Tryz.func232.trans (congrArg some (by kernel_rfl))
  t3 := Tryz.underlying3
  a3 := Tryz.isAgg3
  z3 := Tryz.sizeOf3
  v3 := Tryz.zeroValue3
  t4 := Tryz.underlying4
  a4 := Tryz.isAgg4
  z4 := Tryz.sizeOf4
  v4 := Tryz.zeroValue4
  t5 := Tryz.underlying5
  a5 := Tryz.isAgg5
  z5 := Tryz.sizeOf5
  v5 := Tryz.zeroValue5
  t9 := Tryz.underlying9
  a9 := Tryz.isAgg9
  z9 := Tryz.sizeOf9
  v9 := Tryz.zeroValue9
  t39 := Tryz.underlying214
  a39 := Tryz.isAgg214
  z39 := Tryz.sizeOf214
  v39 := Tryz.zeroValue214
  t53 := Tryz.underlying265
  a53 := Tryz.isAgg265
  z53 := Tryz.sizeOf265
  v53 := Tryz.zeroValue265
  t55 := Tryz.underlying232
  a55 := Tryz.isAgg232
  z55 := Tryz.sizeOf232
  v55 := Tryz.zeroValue232
}
end Go.Proofs
