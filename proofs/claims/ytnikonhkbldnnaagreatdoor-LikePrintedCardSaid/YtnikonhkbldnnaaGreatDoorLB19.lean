import Derived.Test.YtnikonhkbldnnaaGreatDoorLBB
import Derived.Test.YtnikonhkbldnnaaGreatDoorPSG
/- LB19: Maps: a closure that calls itself. -/
set_option linter.unusedVariables false
set_option linter.unusedSimpArgs false
set_option maxRecDepth 20000
namespace Go.Proofs.YtnikonhkbldnnaaGreatDoor
open Go Go.PS
attribute [-simp] isKeyK List.map_take
def idxP {α : Type} (g : α → Bool) : List α → Nat → Int
  | [], _ => -1
  | x :: xs, i => if g x then (i : Int) else idxP g xs (i + 1)
theorem idxP_drop {α : Type} (g : α → Bool) (xs : List α) (k : Nat) (h : k < xs.length) : idxP g (xs.drop k) k = if g xs[k] then (k : Int) else idxP g (xs.drop (k + 1)) (k + 1) := by
  rw [List.drop_eq_getElem_cons h]
  simp [idxP]
theorem idxP_any {α : Type} (g : α → Bool) (xs : List α) (k : Nat) : decide (0 ≤ idxP g xs k) = xs.any g := by
  induction xs generalizing k with
  | nil => simp [idxP]
  | cons x xs ih =>
    simp only [idxP, List.any_cons]
    by_cases h : g x = true
    · simp [h]
    · simpa [h] using ih (k + 1)
@[simp] def mpS : Sg := [(1000000, 1000000), (1001, 1001), (1000001, 1000001), (1000002, 1000002), (1000003, 1000003)]
end Go.Proofs.YtnikonhkbldnnaaGreatDoor
