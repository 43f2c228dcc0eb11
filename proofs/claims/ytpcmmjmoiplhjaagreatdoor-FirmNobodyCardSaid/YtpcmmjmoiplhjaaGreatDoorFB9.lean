import Derived.Test.YtpcmmjmoiplhjaaGreatDoorFB8
/- FB9: the steps by which a firm is founded. -/
set_option linter.unusedVariables false
set_option linter.unusedSimpArgs false
set_option maxRecDepth 20000
namespace Go.Proofs.YtpcmmjmoiplhjaaGreatDoor
open Go Go.PS
attribute [-simp] isKeyK List.map_take
/-- A disk by a variable of the caller. -/
def oM (D : List (Nat × Res)) : List (Nat × Res) := (1000001, .blk 23 [.ptr 1000000 0]) :: D
abbrev L1 : List (List UInt8) := [[109, 97, 114, 107, 32, 49], [100, 111, 110, 101]]
abbrev T1 : List UInt8 := [109, 97, 114, 107, 32, 49, 10, 100, 111, 110, 101, 10]
theorem T1_eq : txt L1 = T1 := rfl
def dA : List (Nat × Res) := dM [] 0 [] 0 100 false (-1)
def dB : List (Nat × Res) := dM T1 0 [] 0 100 false (-1)
def dC : List (Nat × Res) := dM T1 12 [] 0 100 false (-1)
theorem open1 : ECall Tryz.prog 37 [.ptr 1000001 0] (oM dA) (pI 0) (oM dA) := by
  have h := Clear0_spec [] [] 0 0 100 (-1) false rfl (by simp) (by omega) (by omega)
  simp only [spE, spO, spF, Bool.false_or, Int.reduceEq, Int.reduceBEq, Bool.false_eq_true, if_false] at h
  unfold oM dA dM dk at *
  refine ecall_wp Tryz.func37 rfl (by kernel_rfl) ?_
  simp -dsimp
  first
    | refine CallG.on (g := [(1000000, 1000000), (501, 501), (502, 502)]) (h) (by decide) (by simp) (by simp) (by simp [Sg.bk]) ?_
    | refine CallN.on (g := [(1000000, 1000000), (501, 501), (502, 502)]) (h) (by decide) (by simp) (by simp) (by simp [Sg.bk]) ?_
    | refine CallGB.on (g := [(1000000, 1000000), (501, 501), (502, 502)]) (h) (by decide) (by simp) (by simp) (by simp [Sg.bk]) ?_
  simp -dsimp
  refine retE_c (by simp -dsimp) (by simp)
theorem open2 : ECall Tryz.prog 38 [.ptr 1000001 0] (oM dA) (pI 0) (oM dA) := by
  have h := Clear1_spec [] [] 0 0 100 (-1) false rfl (by simp) (by omega) (by omega)
  simp only [spE, spO, spF, Bool.false_or, Int.reduceEq, Int.reduceBEq, Bool.false_eq_true, if_false] at h
  unfold oM dA dM dk at *
  refine ecall_wp Tryz.func38 rfl (by kernel_rfl) ?_
  simp -dsimp
  first
    | refine CallG.on (g := [(1000000, 1000000), (501, 501), (502, 502)]) (h) (by decide) (by simp) (by simp) (by simp [Sg.bk]) ?_
    | refine CallN.on (g := [(1000000, 1000000), (501, 501), (502, 502)]) (h) (by decide) (by simp) (by simp) (by simp [Sg.bk]) ?_
    | refine CallGB.on (g := [(1000000, 1000000), (501, 501), (502, 502)]) (h) (by decide) (by simp) (by simp) (by simp [Sg.bk]) ?_
  simp -dsimp
  refine retE_c (by simp -dsimp) (by simp)
theorem open4 : ECall Tryz.prog 41 [.ptr 1000001 0] (oM dB) (pI 0) (oM dC) := by
  have h := Sync0_spec T1 [] 0 0 100 (-1) false rfl (by omega) (by omega)
  simp only [spE, spO, spF, Bool.false_or, Int.reduceEq, Int.reduceBEq, Bool.false_eq_true, if_false, List.length_cons, List.length_nil] at h
  unfold oM dB dC dM dk at *
  refine ecall_wp Tryz.func41 rfl (by kernel_rfl) ?_
  simp -dsimp
  first
    | refine CallG.on (g := [(1000000, 1000000), (501, 501), (502, 502)]) (h) (by decide) (by simp) (by simp) (by simp [Sg.bk]) ?_
    | refine CallN.on (g := [(1000000, 1000000), (501, 501), (502, 502)]) (h) (by decide) (by simp) (by simp) (by simp [Sg.bk]) ?_
    | refine CallGB.on (g := [(1000000, 1000000), (501, 501), (502, 502)]) (h) (by decide) (by simp) (by simp) (by simp [Sg.bk]) ?_
  simp -dsimp
  refine retE_c (by simp -dsimp) (by simp)
theorem open3 : ECall Tryz.prog 39 [.ptr 1000001 0] (oM dA) (pI 0) (oM dB) := by
  have h := Append0_spec [] [] 0 0 100 (-1) false T1 rfl (by simp) (by simp) (by simp) (by omega) (by omega) (by omega)
  simp only [spE, spO, spF, Bool.false_or, Int.reduceEq, Int.reduceBEq, Bool.false_eq_true, if_false, List.length_cons, List.length_nil] at h
  have ht := text_spec L1 (by simp [txt])
  rw [T1_eq] at ht
  unfold oM dA dB dM dk at *
  refine ecall_wp Tryz.func39 rfl (by kernel_rfl) ?_
  simp -dsimp
  refine wk_draw 3 [1, 2] mixed (by kernel_rfl) ?_
  simp -dsimp
  first
    | refine CallG.by (ht) ?_
    | refine CallGE.by (ht) ?_
    | refine CallGB.by (ht) ?_
  simp -dsimp
  first
    | refine CallG.on (g := [(1000000, 1000000), (501, 501), (502, 502)]) (h) (by decide) (by simp) (by simp) (by simp [Sg.bk]) ?_
    | refine CallN.on (g := [(1000000, 1000000), (501, 501), (502, 502)]) (h) (by decide) (by simp) (by simp) (by simp [Sg.bk]) ?_
    | refine CallGB.on (g := [(1000000, 1000000), (501, 501), (502, 502)]) (h) (by decide) (by simp) (by simp) (by simp [Sg.bk]) ?_
  simp -dsimp
  refine retE_c (by simp -dsimp) (by simp)
def clS : Res := .blk 57 [.clo 37 [.ptr 1000001 0], .clo 38 [.ptr 1000001 0], .clo 39 [.ptr 1000001 0], .clo 41 [.ptr 1000001 0]]
def dI (i : Nat) : List (Nat × Res) := if i ≤ 2 then dA else if i = 3 then dB else dC
theorem steps0 : ECall Tryz.prog 36 [.mx 1000002 5 4 0] ((1000002, clS) :: oM dA) (pI 0) ((1000002, clS) :: oM dC) := by
  have h1 := open1
  have h2 := open2
  have h3 := open3
  have h4 := open4
  have k1 : IntKind.i64.wrap 1 = 1 := rfl
  have k2 : IntKind.i64.wrap 2 = 2 := rfl
  have k3 : IntKind.i64.wrap 3 = 3 := rfl
  have k4 : IntKind.i64.wrap 4 = 4 := rfl
  refine ecall_wp Tryz.func36 rfl (by kernel_rfl) ?_
  unfold clS
  simp -dsimp
  refine wk_loop (fun i : Nat => ⟨[(8, pI i), (7, pI 4), (6, .mx 1000002 5 4 0)], (1000002, .blk 57 [.clo 37 [.ptr 1000001 0], .clo 38 [.ptr 1000001 0], .clo 39 [.ptr 1000001 0], .clo 41 [.ptr 1000001 0]]) :: oM (dI i)⟩) (fun i => i ≤ 4) (fun i => 4 - i) 0
    (le_of (by simp) (by simp [dI, oM, dA, dM, dk])) (by simp) fun i hi => ?_
  rcases (by omega : i = 0 ∨ i = 1 ∨ i = 2 ∨ i = 3 ∨ i = 4) with rfl | rfl | rfl | rfl | rfl
  all_goals unfold dI
  all_goals simp only [Nat.reduceLeDiff, Nat.zero_le, Nat.le_refl, if_true, if_false, Nat.reduceEqDiff]
  all_goals unfold oM dA dB dC dM dk at *
  · simp -dsimp
    first
      | refine CallG.on (g := [(1000001, 1000001), (1000000, 1000000), (501, 501), (502, 502)]) (h1) (by decide) (by simp) (by simp) (by simp [Sg.bk]) ?_
      | refine CallN.on (g := [(1000001, 1000001), (1000000, 1000000), (501, 501), (502, 502)]) (h1) (by decide) (by simp) (by simp) (by simp [Sg.bk]) ?_
      | refine CallGB.on (g := [(1000001, 1000001), (1000000, 1000000), (501, 501), (502, 502)]) (h1) (by decide) (by simp) (by simp) (by simp [Sg.bk]) ?_
    simp -dsimp [k1]
    refine LoopP_next 1 (le_of (by simp) (by simp [dA, dM, dk])) (by omega) (by omega)
  · simp -dsimp
    first
      | refine CallG.on (g := [(1000001, 1000001), (1000000, 1000000), (501, 501), (502, 502)]) (h2) (by decide) (by simp) (by simp) (by simp [Sg.bk]) ?_
      | refine CallN.on (g := [(1000001, 1000001), (1000000, 1000000), (501, 501), (502, 502)]) (h2) (by decide) (by simp) (by simp) (by simp [Sg.bk]) ?_
      | refine CallGB.on (g := [(1000001, 1000001), (1000000, 1000000), (501, 501), (502, 502)]) (h2) (by decide) (by simp) (by simp) (by simp [Sg.bk]) ?_
    simp -dsimp [k2]
    refine LoopP_next 2 (le_of (by simp) (by simp [dA, dM, dk])) (by omega) (by omega)
  · simp -dsimp
    first
      | refine CallG.on (g := [(1000001, 1000001), (1000000, 1000000), (501, 501), (502, 502)]) (h3) (by decide) (by simp) (by simp) (by simp [Sg.bk]) ?_
      | refine CallN.on (g := [(1000001, 1000001), (1000000, 1000000), (501, 501), (502, 502)]) (h3) (by decide) (by simp) (by simp) (by simp [Sg.bk]) ?_
      | refine CallGB.on (g := [(1000001, 1000001), (1000000, 1000000), (501, 501), (502, 502)]) (h3) (by decide) (by simp) (by simp) (by simp [Sg.bk]) ?_
    simp -dsimp [k3]
    refine LoopP_next 3 (le_of (by simp) (by simp [dB, dM, dk])) (by omega) (by omega)
  · simp -dsimp
    first
      | refine CallG.on (g := [(1000001, 1000001), (1000000, 1000000), (501, 501), (502, 502)]) (h4) (by decide) (by simp) (by simp) (by simp [Sg.bk]) ?_
      | refine CallN.on (g := [(1000001, 1000001), (1000000, 1000000), (501, 501), (502, 502)]) (h4) (by decide) (by simp) (by simp) (by simp [Sg.bk]) ?_
      | refine CallGB.on (g := [(1000001, 1000001), (1000000, 1000000), (501, 501), (502, 502)]) (h4) (by decide) (by simp) (by simp) (by simp [Sg.bk]) ?_
    simp -dsimp [k4]
    refine LoopP_next 4 (le_of (by simp) (by simp [dC, dM, dk])) (by omega) (by omega)
  · simp -dsimp
    refine retE_c (by simp -dsimp) (by simp)
end Go.Proofs.YtpcmmjmoiplhjaaGreatDoor
