import Derived.Test.YtpcmmjmoiplhjaaGreatDoorFB16
/- FN1: disks and firms that no call returned; the law FirmNobody. -/
set_option linter.unusedVariables false
set_option linter.unusedSimpArgs false
set_option maxRecDepth 20000
namespace Go.Proofs.YtpcmmjmoiplhjaaGreatDoor
open Go Go.PS
attribute [-simp] isKeyK List.map_take
abbrev nilX : TL := .v (.pointer none)
abbrev zD : TL := .rp [nilT, eI 0, nilT, eI 0, eI 0, eB false, eI 0] 0
abbrev zF : TL := .rp [nilX, nilX, eI 0, eI 0, eB false] 0
theorem noneDn : PCall Tryz.prog 33 [nilX] (pB true) [] := by
  refine pcall_wp _ Tryz.func33 rfl (by kernel_rfl) rfl ?_
  simp -dsimp
  refine retP_c ?_
  simp -dsimp
theorem noneDz : PCall Tryz.prog 33 [zD] (pB true) [] := by
  refine pcall_wp _ Tryz.func33 rfl (by kernel_rfl) rfl ?_
  simp -dsimp
  refine retP_c ?_
  simp -dsimp
theorem noneFn : PCall Tryz.prog 51 [nilX] (pB true) [] := by
  refine pcall_wp _ Tryz.func51 rfl (by kernel_rfl) rfl ?_
  simp -dsimp
  refine retP_c ?_
  simp -dsimp
theorem noneFz : PCall Tryz.prog 51 [zF] (pB true) [] := by
  refine pcall_wp _ Tryz.func51 rfl (by kernel_rfl) rfl ?_
  simp -dsimp
  refine retP_c ?_
  simp -dsimp
theorem reachN (x : TL) (n : Int) (hn : PCall Tryz.prog 33 [x] (pB true) []) : PCall Tryz.prog 32 [x, eI n] (pI 1) [] := by
  refine pcall_wp _ Tryz.func32 rfl (by kernel_rfl) rfl ?_
  simp -dsimp
  first
    | refine CallG.by (hn) ?_
    | refine CallGE.by (hn) ?_
    | refine CallGB.by (hn) ?_
  simp -dsimp
  refine retP_c ?_
  simp -dsimp
theorem fuseN (x : TL) (n : Int) (hn : PCall Tryz.prog 33 [x] (pB true) []) : PCall Tryz.prog 10 [x, eI n] (.t .fz (.tup [])) [] := by
  refine pcall_wp _ Tryz.func10 rfl (by kernel_rfl) rfl ?_
  simp -dsimp
  first
    | refine CallG.by (hn) ?_
    | refine CallGE.by (hn) ?_
    | refine CallGB.by (hn) ?_
  simp -dsimp
  refine retP_c ?_
  simp -dsimp
theorem crashN (x : TL) (n m : Int) (hn : PCall Tryz.prog 33 [x] (pB true) []) : PCall Tryz.prog 11 [x, eI n, eI m] (.t .fz (.tup [])) [] := by
  refine pcall_wp _ Tryz.func11 rfl (by kernel_rfl) rfl ?_
  simp -dsimp
  first
    | refine CallG.by (hn) ?_
    | refine CallGE.by (hn) ?_
    | refine CallGB.by (hn) ?_
  simp -dsimp
  refine retP_c ?_
  simp -dsimp
theorem readN (x : TL) (n : Int) (hn : PCall Tryz.prog 32 [x, eI n] (pI 1) []) : PCall Tryz.prog 9 [x, eI n] (.t .fz (.tup [nilT, eI 1])) [] := by
  refine pcall_wp _ Tryz.func9 rfl (by kernel_rfl) rfl ?_
  simp -dsimp
  first
    | refine CallG.by (hn) ?_
    | refine CallGE.by (hn) ?_
    | refine CallGB.by (hn) ?_
  simp -dsimp
  refine retP_c ?_
  simp -dsimp
theorem openNn (hn : PCall Tryz.prog 33 [nilX] (pB true) []) : PCall Tryz.prog 12 [nilX] (.t .fz (.tup [nilX, eI 1])) [] := by
  refine pcall_wp _ Tryz.func12 rfl (by kernel_rfl) rfl ?_
  simp -dsimp
  first
    | refine CallG.by (hn) ?_
    | refine CallGE.by (hn) ?_
    | refine CallGB.by (hn) ?_
  simp -dsimp
  refine retP_c ?_
  simp -dsimp
theorem openNz (hn : PCall Tryz.prog 33 [zD] (pB true) []) : PCall Tryz.prog 12 [zD] (.t .fz (.tup [nilX, eI 1])) [] := by
  refine pcall_wp _ Tryz.func12 rfl (by kernel_rfl) rfl ?_
  simp -dsimp
  first
    | refine CallG.by (hn) ?_
    | refine CallGE.by (hn) ?_
    | refine CallGB.by (hn) ?_
  simp -dsimp
  refine retP_c ?_
  simp -dsimp
theorem appendN (x : TL) (n : Int) (l : List UInt8) (hn : PCall Tryz.prog 32 [x, eI n] (pI 1) []) : PCall Tryz.prog 13 [x, eI n, .sl .any 1 (bys l)] (pI 1) [] := by
  refine pcall_wp _ Tryz.func13 rfl (by kernel_rfl) rfl ?_
  simp -dsimp
  first
    | refine CallG.by (hn) ?_
    | refine CallGE.by (hn) ?_
    | refine CallGB.by (hn) ?_
  simp -dsimp
  refine retP_c ?_
  simp -dsimp
theorem syncN (x : TL) (n : Int) (hn : PCall Tryz.prog 32 [x, eI n] (pI 1) []) : PCall Tryz.prog 14 [x, eI n] (pI 1) [] := by
  refine pcall_wp _ Tryz.func14 rfl (by kernel_rfl) rfl ?_
  simp -dsimp
  first
    | refine CallG.by (hn) ?_
    | refine CallGE.by (hn) ?_
    | refine CallGB.by (hn) ?_
  simp -dsimp
  refine retP_c ?_
  simp -dsimp
theorem cutN (x : TL) (n m : Int) (hn : PCall Tryz.prog 32 [x, eI n] (pI 1) []) : PCall Tryz.prog 15 [x, eI n, eI m] (pI 1) [] := by
  refine pcall_wp _ Tryz.func15 rfl (by kernel_rfl) rfl ?_
  simp -dsimp
  first
    | refine CallG.by (hn) ?_
    | refine CallGE.by (hn) ?_
    | refine CallGB.by (hn) ?_
  simp -dsimp
  refine retP_c ?_
  simp -dsimp
theorem clearN (x : TL) (n : Int) (hn : PCall Tryz.prog 32 [x, eI n] (pI 1) []) : PCall Tryz.prog 16 [x, eI n] (pI 1) [] := by
  refine pcall_wp _ Tryz.func16 rfl (by kernel_rfl) rfl ?_
  simp -dsimp
  first
    | refine CallG.by (hn) ?_
    | refine CallGE.by (hn) ?_
    | refine CallGB.by (hn) ?_
  simp -dsimp
  refine retP_c ?_
  simp -dsimp
theorem readyN (x : TL) (hn : PCall Tryz.prog 51 [x] (pB true) []) : PCall Tryz.prog 48 [x] (pI 1) [] := by
  refine pcall_wp _ Tryz.func48 rfl (by kernel_rfl) rfl ?_
  simp -dsimp
  first
    | refine CallG.by (hn) ?_
    | refine CallGE.by (hn) ?_
    | refine CallGB.by (hn) ?_
  simp -dsimp
  refine retP_c ?_
  simp -dsimp
theorem doN (x : TL) (l : List UInt8) (hn : PCall Tryz.prog 48 [x] (pI 1) []) : PCall Tryz.prog 17 [x, sV l] (.t .fz (.tup [sV [], eI 1])) [] := by
  refine pcall_wp _ Tryz.func17 rfl (by kernel_rfl) rfl ?_
  simp -dsimp
  first
    | refine CallG.by (hn) ?_
    | refine CallGE.by (hn) ?_
    | refine CallGB.by (hn) ?_
  simp -dsimp
  refine retP_c ?_
  simp -dsimp
theorem askN (x : TL) (l : List UInt8) (hn : PCall Tryz.prog 51 [x] (pB true) []) : PCall Tryz.prog 18 [x, sV l] (.t .fz (.tup [sV [], eI 1])) [] := by
  refine pcall_wp _ Tryz.func18 rfl (by kernel_rfl) rfl ?_
  simp -dsimp
  first
    | refine CallG.by (hn) ?_
    | refine CallGE.by (hn) ?_
    | refine CallGB.by (hn) ?_
  simp -dsimp
  refine retP_c ?_
  simp -dsimp
theorem compactN (x : TL) (hn : PCall Tryz.prog 48 [x] (pI 1) []) : PCall Tryz.prog 19 [x] (pI 1) [] := by
  refine pcall_wp _ Tryz.func19 rfl (by kernel_rfl) rfl ?_
  simp -dsimp
  first
    | refine CallG.by (hn) ?_
    | refine CallGE.by (hn) ?_
    | refine CallGB.by (hn) ?_
  simp -dsimp
  refine retP_c ?_
  simp -dsimp
theorem dumpN (x : TL) (hn : PCall Tryz.prog 51 [x] (pB true) []) : PCall Tryz.prog 20 [x] (.t .fz nilT) [] := by
  refine pcall_wp _ Tryz.func20 rfl (by kernel_rfl) rfl ?_
  simp -dsimp
  first
    | refine CallG.by (hn) ?_
    | refine CallGE.by (hn) ?_
    | refine CallGB.by (hn) ?_
  simp -dsimp
  refine retP_c ?_
  simp -dsimp
theorem stateN (x : TL) (hn : PCall Tryz.prog 51 [x] (pB true) []) : PCall Tryz.prog 21 [x] (sP []) [] := by
  refine pcall_wp _ Tryz.func21 rfl (by kernel_rfl) rfl ?_
  simp -dsimp
  first
    | refine CallG.by (hn) ?_
    | refine CallGE.by (hn) ?_
    | refine CallGB.by (hn) ?_
  simp -dsimp
  refine retP_c ?_
  simp -dsimp
theorem markN (x : TL) (hn : PCall Tryz.prog 51 [x] (pB true) []) : PCall Tryz.prog 22 [x] (pI 0) [] := by
  refine pcall_wp _ Tryz.func22 rfl (by kernel_rfl) rfl ?_
  simp -dsimp
  first
    | refine CallG.by (hn) ?_
    | refine CallGE.by (hn) ?_
    | refine CallGB.by (hn) ?_
  simp -dsimp
  refine retP_c ?_
  simp -dsimp
end Go.Proofs.YtpcmmjmoiplhjaaGreatDoor
