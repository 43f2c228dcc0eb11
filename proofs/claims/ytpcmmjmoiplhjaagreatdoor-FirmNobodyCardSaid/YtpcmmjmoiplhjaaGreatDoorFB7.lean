import Derived.Test.YtpcmmjmoiplhjaaGreatDoorFB6
/- FB7: Atoi of nothing. -/
set_option linter.unusedVariables false
set_option linter.unusedSimpArgs false
set_option maxRecDepth 20000
namespace Go.Proofs.YtpcmmjmoiplhjaaGreatDoor
open Go Go.PS
attribute [-simp] isKeyK List.map_take
@[simp] theorem ev_err (s : StL) : ev s (.global 1) = .t .ro (.rp [.one] 0) := rfl
@[simp] theorem h_sz : szT Tryz.prog 91 = some 1 := by kernel_rfl
@[simp] theorem h_ag : aggT Tryz.prog 91 = some false := by kernel_rfl
@[simp] theorem h_ib : isBoolT Tryz.prog 91 = false := by kernel_rfl
@[simp] theorem h_is : isSlT Tryz.prog 91 = false := by kernel_rfl
@[simp] theorem h_z : zT Tryz.prog 91 = some [.nilIface] := by kernel_rfl
@[simp] theorem n_sz : szT Tryz.prog 244 = some 3 := by kernel_rfl
@[simp] theorem n_ag : aggT Tryz.prog 244 = some true := by kernel_rfl
@[simp] theorem n_ib : isBoolT Tryz.prog 244 = false := by kernel_rfl
@[simp] theorem n_is : isSlT Tryz.prog 244 = false := by kernel_rfl
@[simp] theorem n_z : zT Tryz.prog 244 = some [.string ByteArray.empty, .string ByteArray.empty, .nilIface] := by kernel_rfl
@[simp] theorem n_ok : fldsOk Tryz.prog 244 = true := by kernel_rfl
@[simp] theorem n_f0 : fldT Tryz.prog 244 0 = some (0, 1) := by kernel_rfl
@[simp] theorem n_a0 : fldA Tryz.prog 244 0 = some false := by kernel_rfl
@[simp] theorem n_p0 : placeT Tryz.prog 244 0 = some (0, 1) := by kernel_rfl
@[simp] theorem n_f1 : fldT Tryz.prog 244 1 = some (1, 1) := by kernel_rfl
@[simp] theorem n_a1 : fldA Tryz.prog 244 1 = some false := by kernel_rfl
@[simp] theorem n_p1 : placeT Tryz.prog 244 1 = some (1, 1) := by kernel_rfl
@[simp] theorem n_f2 : fldT Tryz.prog 244 2 = some (2, 1) := by kernel_rfl
@[simp] theorem n_a2 : fldA Tryz.prog 244 2 = some false := by kernel_rfl
@[simp] theorem n_p2 : placeT Tryz.prog 244 2 = some (2, 1) := by kernel_rfl
theorem bsz0 : (ByteArray.mk #[]).size = 0 := rfl
theorem parseInt0 : PCall Tryz.prog 142 [sV [], eI 10, eI 0] (.t .fz (.tup [eI 0, .v (.iface 185 (.int .i64 2))])) [] := by
  have h1 := bsz0
  refine pcall_wp _ Tryz.func142 rfl (by kernel_rfl) rfl ?_
  simp -dsimp [h1]
  refine retP_c ?_
  simp -dsimp
theorem atoiI0 : PCall Tryz.prog 96 [sV []] (.t .fz (.tup [eI 0, .v (.iface 185 (.int .i64 2))])) [] := by
  have h1 := bsz0
  have hp := parseInt0
  refine pcall_wp _ Tryz.func96 rfl (by kernel_rfl) rfl ?_
  simp -dsimp [h1]
  first
    | refine CallG.by (hp) ?_
    | refine CallGE.by (hp) ?_
    | refine CallGB.by (hp) ?_
  simp -dsimp
  refine retP_c ?_
  simp -dsimp
theorem clone0 : PCall Tryz.prog 194 [sV []] (.t .fz (sV [])) [] := by
  have h1 := bsz0
  have he : (ByteArray.mk #[]) = ByteArray.empty := rfl
  refine pcall_wp _ Tryz.func194 rfl (by kernel_rfl) rfl ?_
  simp -dsimp [h1]
  refine retP_c ?_
  simp -dsimp [he]
theorem synErr0 : ECall Tryz.prog 143 [.t .fz (sV [65, 116, 111, 105]), .t .fz (sV [])] [] (.ptr 10 0) [(10, .blk 244 [.t .fz (sV [65, 116, 111, 105]), .t .fz (sV []), .t .ro .one])] := by
  have h1 := clone0
  refine ecall_wp Tryz.func143 rfl (by kernel_rfl) ?_
  simp -dsimp
  refine wk_draw 4 [] mixed (by kernel_rfl) ?_
  simp -dsimp
  first
    | refine CallG.by (h1) ?_
    | refine CallGE.by (h1) ?_
    | refine CallGB.by (h1) ?_
  simp -dsimp
  refine retE_c (by simp -dsimp) (by simp)
theorem toErr0 : PCall Tryz.prog 97 [sV [65, 116, 111, 105], sV [], eI 0, eI 0, .v (.iface 185 (.int .i64 2))] (.t .fz .one) [] := by
  have h1 := synErr0
  refine pcall_wp _ Tryz.func97 rfl (by kernel_rfl) rfl ?_
  simp -dsimp
  first
    | refine CallG.on (g := [(301, 10)]) (h1) (by decide) (by simp) (by simp) (by simp [Sg.bk]) ?_
    | refine CallN.on (g := [(301, 10)]) (h1) (by decide) (by simp) (by simp) (by simp [Sg.bk]) ?_
    | refine CallGB.on (g := [(301, 10)]) (h1) (by decide) (by simp) (by simp) (by simp [Sg.bk]) ?_
  simp -dsimp
  refine retP_c ?_
  simp -dsimp
theorem atoi0 : PCall Tryz.prog 60 [sV []] (.t .fz (.tup [eI 0, .one])) [] := by
  have h1 := atoiI0
  have h2 := toErr0
  refine pcall_wp _ Tryz.func60 rfl (by kernel_rfl) rfl ?_
  simp -dsimp
  first
    | refine CallG.by (h1) ?_
    | refine CallGE.by (h1) ?_
    | refine CallGB.by (h1) ?_
  simp -dsimp
  first
    | refine CallG.by (h2) ?_
    | refine CallGE.by (h2) ?_
    | refine CallGB.by (h2) ?_
  simp -dsimp
  refine retP_c ?_
  simp -dsimp
end Go.Proofs.YtpcmmjmoiplhjaaGreatDoor
