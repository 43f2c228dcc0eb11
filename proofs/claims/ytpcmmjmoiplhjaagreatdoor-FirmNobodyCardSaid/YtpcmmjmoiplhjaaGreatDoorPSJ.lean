import Derived.Test.YtpcmmjmoiplhjaaGreatDoorPSI
import Derived.Recover
/- PSJ: a body that defers one closure; a closure that recovers. -/
set_option linter.unusedVariables false
set_option linter.unusedSimpArgs false
namespace Go.PS
open Go Go.RowKit
section
variable {P : Program} {n : Nat}
/-- An ending before which names are given up. -/
def EndZ (z : List Nat) (Q : Exit → StL → Prop) : Exit → StL → Prop := fun e s => Q e (frzZ z s)
@[simp ↓] theorem EndZ_normal (z : List Nat) (fn : Func) (s : StL) (r : PV) (M' : List (Nat × Res)) : EndZ z (EndE P fn r M') .normal s = RetE P fn (frzZ z s) r M' := by simp only [EndZ, EndE, true_or, true_and]
@[simp ↓] theorem EndZ_ret (z : List Nat) (fn : Func) (s : StL) (r : PV) (M' : List (Nat × Res)) : EndZ z (EndE P fn r M') .ret s = RetE P fn (frzZ z s) r M' := by simp only [EndZ, EndE, or_true, true_and]
end
end Go.PS
