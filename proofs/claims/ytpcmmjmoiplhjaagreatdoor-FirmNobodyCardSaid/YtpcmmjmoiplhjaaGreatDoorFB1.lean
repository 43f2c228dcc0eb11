import Derived.Test.YtpcmmjmoiplhjaaGreatDoorLA2
/- FB1: new disks. -/
set_option linter.unusedVariables false
set_option linter.unusedSimpArgs false
set_option maxRecDepth 20000
namespace Go.Proofs.YtpcmmjmoiplhjaaGreatDoor
open Go Go.PS
attribute [-simp] isKeyK List.map_take
theorem newDisk_spec : ECall Tryz.prog 23 [pI 100] [] (.tup [.ptr 12 0, pI 0]) [(12, dk nilP 0 nilP 0 100 false (-1))] := by
  unfold dk
  refine ecall_wp Tryz.func23 rfl (by kernel_rfl) ?_
  simp -dsimp
  refine retE_c (by simp -dsimp) (by simp)
def rd0 : Res := .blk 70 [pI 100, nilP, nilP, pI 0, pI 0, pB false, pI (-1)]
theorem newDiskR_spec : ECall Tryz.prog 24 [pI 100] [] (.tup [.ptr 12 0, pI 0]) [(12, rd0)] := by
  unfold rd0
  refine ecall_wp Tryz.func24 rfl (by kernel_rfl) ?_
  simp -dsimp
  refine retE_c (by simp -dsimp) (by simp)
theorem disks_spec : ECall Tryz.prog 5 [pI 100] [] (.tup [.ptr 701 0, .ptr 702 0, pB true]) [(701, dk nilP 0 nilP 0 100 false (-1)), (702, rd0)] := by
  have h1 := newDisk_spec
  have h2 := newDiskR_spec
  unfold dk rd0 at *
  refine ecall_wp Tryz.func5 rfl (by kernel_rfl) ?_
  simp -dsimp
  first
    | refine CallG.on (g := [(701, 12)]) (h1) (by decide) (by simp) (by simp) (by simp [Sg.bk]) ?_
    | refine CallN.on (g := [(701, 12)]) (h1) (by decide) (by simp) (by simp) (by simp [Sg.bk]) ?_
    | refine CallGB.on (g := [(701, 12)]) (h1) (by decide) (by simp) (by simp) (by simp [Sg.bk]) ?_
  simp -dsimp
  first
    | refine CallG.on (g := [(702, 12)]) (h2) (by decide) (by simp) (by simp) (by simp [Sg.bk]) ?_
    | refine CallN.on (g := [(702, 12)]) (h2) (by decide) (by simp) (by simp) (by simp [Sg.bk]) ?_
    | refine CallGB.on (g := [(702, 12)]) (h2) (by decide) (by simp) (by simp) (by simp [Sg.bk]) ?_
  simp -dsimp
  refine retE_c (by simp -dsimp) (by simp)
end Go.Proofs.YtpcmmjmoiplhjaaGreatDoor
