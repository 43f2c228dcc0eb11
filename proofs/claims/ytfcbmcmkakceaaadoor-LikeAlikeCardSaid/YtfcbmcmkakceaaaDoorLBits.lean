/- The shelf's contract of math/bits.Len, laid at this dump (after the kit's laying tool's fashion). -/
import Derived.Shelf.SlSortCmp.WholeK
import Derived.Test.YtfcbmcmkakceaaaDoorProg
namespace Go.Proofs
open Go.Shelf
def Tryd.bitsRen : Go.Shelf.Ren := ⟨fun | 15 => 150 | 28 => 166 | 29 => 167 | n => n, fun | 3 => 3 | 4 => 4 | 5 => 5 | 9 => 9 | 39 => 45 | 53 => 174 | 55 => 176 | n => n, fun | n => n⟩
theorem Tryd.bits15 : Go.Proofs.SlLaysF0.n15 Tryd.prog Tryd.bitsRen := {
  mixed := by kernel_rfl
  f15 := Tryd.func150.trans (congrArg some (by kernel_rfl))
  f28 := Tryd.func166.trans (congrArg some (by kernel_rfl))
  f29 := Tryd.func167.trans (congrArg some (by kernel_rfl))
  t3 := Tryd.underlying3
  a3 := Tryd.isAgg3
  z3 := Tryd.sizeOf3
  v3 := Tryd.zeroValue3
  t4 := Tryd.underlying4
  a4 := Tryd.isAgg4
  z4 := Tryd.sizeOf4
  v4 := Tryd.zeroValue4
  t5 := Tryd.underlying5
  a5 := Tryd.isAgg5
  z5 := Tryd.sizeOf5
  v5 := Tryd.zeroValue5
  t9 := Tryd.underlying9
  a9 := Tryd.isAgg9
  z9 := Tryd.sizeOf9
  v9 := Tryd.zeroValue9
  t39 := Tryd.underlying45
  a39 := Tryd.isAgg45
  z39 := Tryd.sizeOf45
  v39 := Tryd.zeroValue45
  t53 := Tryd.underlying174
  a53 := Tryd.isAgg174
  z53 := Tryd.sizeOf174
  v53 := Tryd.zeroValue174
  t55 := Tryd.underlying176
  a55 := Tryd.isAgg176
  z55 := Tryd.sizeOf176
  v55 := Tryd.zeroValue176
}
end Go.Proofs
