import Derived.Test.YtnikonhkbldnnaaDoorLBA
/- LB48: none of the zero formula. -/
set_option linter.unusedVariables false
set_option linter.unusedSimpArgs false
namespace Go.Proofs.YtnikonhkbldnnaaDoor
open Go Go.PS
attribute [-simp] isKeyK List.map_take
theorem none_z : PCall Tryd.prog 20 [.agg foZ] (pB true) [] := by
  unfold foZ nilT
  refine pcall_wp _ Tryd.func20 rfl (by kernel_rfl) rfl ?_
  simp -dsimp
  refine retP_c ?_
  simp -dsimp
end Go.Proofs.YtnikonhkbldnnaaDoor
