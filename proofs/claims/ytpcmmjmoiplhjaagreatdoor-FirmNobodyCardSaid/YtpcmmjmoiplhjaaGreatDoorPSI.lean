import Derived.Test.YtpcmmjmoiplhjaaGreatDoorPSH
/- PSI: calls that panic. -/
set_option linter.unusedVariables false
set_option linter.unusedSimpArgs false
namespace Go.PS
open Go Go.RowKit
section
variable {P : Program} {n : Nat}
end
end Go.PS
