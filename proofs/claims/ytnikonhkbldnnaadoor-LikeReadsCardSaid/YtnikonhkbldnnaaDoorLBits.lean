/- The shelf's contract of math/bits.Len, laid at this dump (after the kit's laying tool's fashion). -/
import Derived.Shelf.SlSortCmp.Xorshift
import Derived.Test.YtnikonhkbldnnaaDoorProg
namespace Go.Proofs
open Go.Shelf
def Tryd.bitsRen : Go.Shelf.Ren := ⟨fun | 15 => 92 | 28 => 109 | 29 => 110 | n => n, fun | 3 => 3 | 4 => 4 | 5 => 5 | 9 => 9 | 39 => 140 | 53 => 147 | 55 => 149 | n => n, fun | n => n⟩
theorem Tryd.bits15 : Go.Proofs.SlLaysF0.n15 Tryd.prog Tryd.bitsRen := {
  mixed := by kernel_rfl
  f15 := Tryd.func92.trans (congrArg some (by kernel_rfl))
  f28 := Tryd.func109.trans (congrArg some (by kernel_rfl))
  f29 := Tryd.func110.trans (congrArg some (by kernel_rfl))
  t3 := Tryd.underlying3
  a3 := Tryd.isAgg3
  z3 := Tryd.sizeOf3
  v3 := Tryd.zeroValue3
  t4 := Tryd.underlying4
  a4 := Tryd.isAgg4
  z4 := Tryd.sizeOf4
  v4 := Tryd.zeroValue4
  t5 := Tryd.underlying5
  a5 := Tryd.isAgg5
  z5 := Tryd.sizeOf5
  v5 := Tryd.zeroValue5
  t9 := Tryd.underlying9
  a9 := Tryd.isAgg9
  z9 := Tryd.sizeOf9
  v9 := Tryd.zeroValue9
  t39 := Tryd.underlying140
  a39 := Tryd.isAgg140
  z39 := Tryd.sizeOf140
  v39 := Tryd.zeroValue140
  t53 := Tryd.underlying147
  a53 := Tryd.isAgg147
  z53 := Tryd.sizeOf147
  v53 := Tryd.zeroValue147
  t55 := Tryd.underlying149
  a55 := Tryd.isAgg149
  z55 := Tryd.sizeOf149
  v55 := Tryd.zeroValue149
}
end Go.Proofs
