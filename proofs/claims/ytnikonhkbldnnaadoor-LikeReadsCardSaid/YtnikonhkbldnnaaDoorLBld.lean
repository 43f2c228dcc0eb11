import Derived.Shelf.Strings.Builder1
import Derived.Test.YtnikonhkbldnnaaDoorLBA
import Derived.Test.YtnikonhkbldnnaaDoorPSH
/- LBld: strings.Builder: copyCheck by the shelf's contract, laid at this dump; WriteString, String. -/
set_option linter.unusedVariables false
set_option linter.unusedSimpArgs false
set_option maxRecDepth 20000
namespace Go.Proofs
open Go.Shelf
end Go.Proofs
namespace Go.Proofs.YtnikonhkbldnnaaDoor
open Go Go.PS Go.Shelf
attribute [-simp] isKeyK List.map_take
@[simp] theorem z8 : zeroU8 Tryd.prog 5 = true := by kernel_rfl
@[simp] theorem pe8 : ptrEl Tryd.prog 107 = some 5 := by kernel_rfl
@[simp] theorem bys_app (a b : List UInt8) : bys a ++ bys b = bys (a ++ b) := by simp [bys]
@[simp] theorem ba_size (l : List UInt8) : (ByteArray.mk l.toArray).size = l.length := by simp [ByteArray.size]
end Go.Proofs.YtnikonhkbldnnaaDoor
