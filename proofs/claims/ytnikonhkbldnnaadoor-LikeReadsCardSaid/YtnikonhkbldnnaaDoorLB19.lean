import Derived.Test.YtnikonhkbldnnaaDoorLBB
import Derived.Test.YtnikonhkbldnnaaDoorPSG
/- LB19: Maps: a closure that calls itself. -/
set_option linter.unusedVariables false
set_option linter.unusedSimpArgs false
set_option maxRecDepth 20000
namespace Go.Proofs.YtnikonhkbldnnaaDoor
open Go Go.PS
attribute [-simp] isKeyK List.map_take
@[simp] def mpS : Sg := [(1000000, 1000000), (1001, 1001), (1000001, 1000001), (1000002, 1000002), (1000003, 1000003)]
end Go.Proofs.YtnikonhkbldnnaaDoor
