import Derived.Test.YtpcmmjmoiplhjaaGreatDoorFB7
import Derived.Test.YtpcmmjmoiplhjaaGreatDoorFB5
/- FB8: the books of an empty file. -/
set_option linter.unusedVariables false
set_option linter.unusedSimpArgs false
set_option maxRecDepth 20000
namespace Go.Proofs.YtpcmmjmoiplhjaaGreatDoor
open Go Go.PS
attribute [-simp] isKeyK List.map_take
abbrev mkW : List UInt8 := [109, 97, 114, 107, 32]
def st1 : Res := .blk 100 [pI 1, nilP, nilP, nilP, nilP, nilP]
theorem begin_spec : ECall Tryz.prog 42 [] [] (.ptr 2 0) [(2, st1)] := by
  unfold st1
  refine ecall_wp Tryz.func42 rfl (by kernel_rfl) ?_
  simp -dsimp
  refine retE_c (by simp -dsimp) (by simp)
theorem hp0 : PCall Tryz.prog 141 [sV [], sV mkW] (pB false) [] := by
  have h1 := bsz0
  have h2 := bsz mkW
  simp only [List.length_cons, List.length_nil, Nat.zero_add, Nat.reduceAdd] at h2
  refine pcall_wp _ Tryz.func141 rfl (by kernel_rfl) rfl ?_
  simp -dsimp [h1, h2]
  refine retP_c ?_
  simp -dsimp
theorem cpi0 : PCall Tryz.prog 95 [sV [], sV mkW] (.t .fz (.tup [sV [], eB false])) [] := by
  have hh := hp0
  refine pcall_wp _ Tryz.func95 rfl (by kernel_rfl) rfl ?_
  simp -dsimp
  first
    | refine CallG.by (hh) ?_
    | refine CallGE.by (hh) ?_
    | refine CallGB.by (hh) ?_
  simp -dsimp
  refine retP_c ?_
  simp -dsimp
theorem cp0 : PCall Tryz.prog 59 [sV [], sV mkW] (.t .fz (.tup [sV [], eB false])) [] := by
  have hh := cpi0
  refine pcall_wp _ Tryz.func59 rfl (by kernel_rfl) rfl ?_
  simp -dsimp
  first
    | refine CallG.by (hh) ?_
    | refine CallGE.by (hh) ?_
    | refine CallGB.by (hh) ?_
  simp -dsimp
  refine retP_c ?_
  simp -dsimp
theorem read0 : ECall Tryz.prog 35 [sP []] [] (.tup [.agg [pI 0, pI 0, nilA], pB false]) [] := by
  have hb := begin_spec
  have hc := Cut_spec [] 10 (by simp)
  have hp := cp0
  have ha := atoi0
  have e : Lib.indexByte [] 10 = -1 := rfl
  unfold cutT at hc
  rw [e] at hc
  simp only [Int.reduceLT, if_true, Int.reduceNeg] at hc
  unfold st1 at hb
  refine ecall_wp Tryz.func35 rfl (by kernel_rfl) ?_
  simp -dsimp
  first
    | refine CallG.on (g := [(301, 2)]) (hb) (by decide) (by simp) (by simp) (by simp [Sg.bk]) ?_
    | refine CallN.on (g := [(301, 2)]) (hb) (by decide) (by simp) (by simp) (by simp [Sg.bk]) ?_
    | refine CallGB.on (g := [(301, 2)]) (hb) (by decide) (by simp) (by simp) (by simp [Sg.bk]) ?_
  simp -dsimp
  first
    | refine CallG.by (hc) ?_
    | refine CallGE.by (hc) ?_
    | refine CallGB.by (hc) ?_
  simp -dsimp
  first
    | refine CallG.by (hp) ?_
    | refine CallGE.by (hp) ?_
    | refine CallGB.by (hp) ?_
  simp -dsimp
  first
    | refine CallG.by (ha) ?_
    | refine CallGE.by (ha) ?_
    | refine CallGB.by (ha) ?_
  simp -dsimp
  refine retE_c (by simp -dsimp) (by simp)
end Go.Proofs.YtpcmmjmoiplhjaaGreatDoor
