import Derived.Test.YtpcmmjmoiplhjaaGreatDoorFB4
/- FB5: what a disk reads. -/
set_option linter.unusedVariables false
set_option linter.unusedSimpArgs false
set_option maxRecDepth 20000
namespace Go.Proofs.YtpcmmjmoiplhjaaGreatDoor
open Go Go.PS
attribute [-simp] isKeyK List.map_take
theorem Read0_spec (l0 l1 : List UInt8) (s0 s1 size fuse : Int) (hs : (size == 0) = false) (hl : l0.length ≤ 1000000) : ECall Tryz.prog 9 [.ptr 1000000 0, pI 0] (dM l0 s0 l1 s1 size false fuse) (.tup [.osl 26, pI 0]) (dM l0 s0 l1 s1 size false fuse ++ [(26, .row 5 1 .ro (bys l0))]) := by
  have hr := reach_spec l0 l1 s0 s1 size fuse false 0 hs (by simp)
  have w1 := wr (n := (l0.length : Int)) (by omega) (by omega)
  have b1 : (l0.length : Int) ≤ 140737488355328 := by omega
  have b2 : (l0.length : Int) ≤ 281474976710656 := by omega
  have e1 : spl (List.replicate l0.length [TL.v (.int .u8 0)]) 0 (bys l0) = bys l0 := by simp [spl]
  have e2 : (bys l0).take l0.length = bys l0 := List.take_of_length_le (by simp)
  simp only [bys] at e1 e2
  unfold dM dk at *
  refine ecall_wp Tryz.func9 rfl (by kernel_rfl) ?_
  simp -dsimp
  first
    | refine CallG.on (g := [(1000000, 1000000), (501, 501), (502, 502)]) (hr) (by decide) (by simp) (by simp) (by simp [Sg.bk]) ?_
    | refine CallN.on (g := [(1000000, 1000000), (501, 501), (502, 502)]) (hr) (by decide) (by simp) (by simp) (by simp [Sg.bk]) ?_
    | refine CallGB.on (g := [(1000000, 1000000), (501, 501), (502, 502)]) (hr) (by decide) (by simp) (by simp) (by simp [Sg.bk]) ?_
  simp -dsimp [w1, b1, b2, bys, e1, e2]
  refine retE_c (by simp -dsimp [bys, e1, e2]) (by simp [bys, e1, e2])
theorem Read1_spec (l0 l1 : List UInt8) (s0 s1 size fuse : Int) (hs : (size == 0) = false) (hl : l1.length ≤ 1000000) : ECall Tryz.prog 9 [.ptr 1000000 0, pI 1] (dM l0 s0 l1 s1 size false fuse) (.tup [.osl 26, pI 0]) (dM l0 s0 l1 s1 size false fuse ++ [(26, .row 5 1 .ro (bys l1))]) := by
  have hr := reach_spec l0 l1 s0 s1 size fuse false 1 hs (by simp)
  have w1 := wr (n := (l1.length : Int)) (by omega) (by omega)
  have b1 : (l1.length : Int) ≤ 140737488355328 := by omega
  have b2 : (l1.length : Int) ≤ 281474976710656 := by omega
  have e1 : spl (List.replicate l1.length [TL.v (.int .u8 0)]) 0 (bys l1) = bys l1 := by simp [spl]
  have e2 : (bys l1).take l1.length = bys l1 := List.take_of_length_le (by simp)
  simp only [bys] at e1 e2
  unfold dM dk at *
  refine ecall_wp Tryz.func9 rfl (by kernel_rfl) ?_
  simp -dsimp
  first
    | refine CallG.on (g := [(1000000, 1000000), (501, 501), (502, 502)]) (hr) (by decide) (by simp) (by simp) (by simp [Sg.bk]) ?_
    | refine CallN.on (g := [(1000000, 1000000), (501, 501), (502, 502)]) (hr) (by decide) (by simp) (by simp) (by simp [Sg.bk]) ?_
    | refine CallGB.on (g := [(1000000, 1000000), (501, 501), (502, 502)]) (hr) (by decide) (by simp) (by simp) (by simp [Sg.bk]) ?_
  simp -dsimp [w1, b1, b2, bys, e1, e2]
  refine retE_c (by simp -dsimp [bys, e1, e2]) (by simp [bys, e1, e2])
end Go.Proofs.YtpcmmjmoiplhjaaGreatDoor
