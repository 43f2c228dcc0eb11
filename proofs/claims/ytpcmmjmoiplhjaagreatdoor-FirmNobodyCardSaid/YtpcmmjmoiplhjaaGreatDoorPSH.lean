import Derived.Test.YtpcmmjmoiplhjaaGreatDoorPSG
/- PSH: a region that draws its order, walked operation by operation; behind some operations memory of our own is given up. -/
set_option linter.unusedVariables false
set_option linter.unusedSimpArgs false
namespace Go.PS
open Go Go.RowKit
section
variable {P : Program} {n : Nat}
def frz1 (z : List Nat) (s : StL) : StL := match z with
  | [] => s
  | z => frzZ z s
@[simp ↓] theorem frz1_nil (s : StL) : frz1 [] s = s := rfl
@[simp ↓] theorem frz1_cons (x : Nat) (z : List Nat) (s : StL) : frz1 (x :: z) s = frzZ (x :: z) s := rfl
variable {w0 : Base} {F0 : Nat → Prop}
end
end Go.PS
