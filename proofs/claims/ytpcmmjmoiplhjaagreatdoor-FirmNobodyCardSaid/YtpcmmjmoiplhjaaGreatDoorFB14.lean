import Derived.Test.YtpcmmjmoiplhjaaGreatDoorFB13
/- FB14: Do of the line 'house ada'. -/
set_option linter.unusedVariables false
set_option linter.unusedSimpArgs false
set_option maxRecDepth 20000
namespace Go.Proofs.YtpcmmjmoiplhjaaGreatDoor
open Go Go.PS
attribute [-simp] isKeyK List.map_take
def clW : Res := .blk 57 [.clo 74 [.ptr 1000001 0, .ptr 1000002 0, .ptr 1000003 0], .clo 75 [.ptr 1000001 0, .ptr 1000002 0]]
def wI (i : Nat) : List (Nat × Res) := if i = 0 then wM lHAn (fM st1 false dC) else if i = 1 then wM lHAn (fM st1 false dD) else wM lHAn (fM st1 false dE)
theorem steps1 : ECall Tryz.prog 36 [.mx 1000020 5 2 0] ((1000020, clW) :: wM lHAn (fM st1 false dC)) (pI 0) ((1000020, clW) :: wM lHAn (fM st1 false dE)) := by
  have h1 := write1
  have h2 := write2
  have k1 : IntKind.i64.wrap 1 = 1 := rfl
  have k2 : IntKind.i64.wrap 2 = 2 := rfl
  refine ecall_wp Tryz.func36 rfl (by kernel_rfl) ?_
  unfold clW
  simp -dsimp
  refine wk_loop (fun i : Nat => ⟨[(8, pI i), (7, pI 2), (6, .mx 1000020 5 2 0)], (1000020, .blk 57 [.clo 74 [.ptr 1000001 0, .ptr 1000002 0, .ptr 1000003 0], .clo 75 [.ptr 1000001 0, .ptr 1000002 0]]) :: wI i⟩) (fun i => i ≤ 2) (fun i => 2 - i) 0
    (le_of (by simp) (by simp [wI, wM, fM, dC, dM, dk, st1])) (by simp) fun i hi => ?_
  rcases (by omega : i = 0 ∨ i = 1 ∨ i = 2) with rfl | rfl | rfl
  all_goals unfold wI
  all_goals simp only [if_true, if_false, Nat.reduceEqDiff, Nat.one_ne_zero]
  all_goals unfold wM fM dC dD dE dM dk st1 at *
  · simp -dsimp
    first
      | refine CallG.on (g := [(1000001, 1000001), (1000002, 1000002), (1000003, 1000003), (1000010, 1000010), (1000011, 1000011), (1000000, 1000000), (501, 501), (502, 502)]) (h1) (by decide) (by simp) (by simp) (by simp [Sg.bk]) ?_
      | refine CallN.on (g := [(1000001, 1000001), (1000002, 1000002), (1000003, 1000003), (1000010, 1000010), (1000011, 1000011), (1000000, 1000000), (501, 501), (502, 502)]) (h1) (by decide) (by simp) (by simp) (by simp [Sg.bk]) ?_
      | refine CallGB.on (g := [(1000001, 1000001), (1000002, 1000002), (1000003, 1000003), (1000010, 1000010), (1000011, 1000011), (1000000, 1000000), (501, 501), (502, 502)]) (h1) (by decide) (by simp) (by simp) (by simp [Sg.bk]) ?_
    simp -dsimp [k1]
    refine LoopP_next 1 (le_of (by simp) (by simp [wI, wM, fM, dD, dM, dk, st1])) (by omega) (by omega)
  · simp -dsimp
    first
      | refine CallG.on (g := [(1000001, 1000001), (1000002, 1000002), (1000003, 1000003), (1000010, 1000010), (1000011, 1000011), (1000000, 1000000), (501, 501), (502, 502)]) (h2) (by decide) (by simp) (by simp) (by simp [Sg.bk]) ?_
      | refine CallN.on (g := [(1000001, 1000001), (1000002, 1000002), (1000003, 1000003), (1000010, 1000010), (1000011, 1000011), (1000000, 1000000), (501, 501), (502, 502)]) (h2) (by decide) (by simp) (by simp) (by simp [Sg.bk]) ?_
      | refine CallGB.on (g := [(1000001, 1000001), (1000002, 1000002), (1000003, 1000003), (1000010, 1000010), (1000011, 1000011), (1000000, 1000000), (501, 501), (502, 502)]) (h2) (by decide) (by simp) (by simp) (by simp [Sg.bk]) ?_
    simp -dsimp [k2]
    refine LoopP_next 2 (le_of (by simp) (by simp [wI, wM, fM, dE, dM, dk, st1])) (by omega) (by omega)
  · simp -dsimp
    refine retE_c (by simp -dsimp) (by simp)
theorem write_spec : ECall Tryz.prog 50 [.ptr 1000010 0, pI 0, .t .ro (.sl .any 1 (bys lHAn))] (fM st1 false dC) (pI 0) (fM st1 false dE) := by
  have h := steps1
  unfold clW wM fM dC dE dM dk st1 at *
  refine ecall_wp Tryz.func50 rfl (by kernel_rfl) ?_
  simp -dsimp
  first
    | refine CallG.on (g := [(10, 1000020), (3, 1000001), (4, 1000002), (5, 1000003), (1000010, 1000010), (1000011, 1000011), (1000000, 1000000), (501, 501), (502, 502)]) (h) (by decide) (by simp) (by simp) (by simp [Sg.bk]) ?_
    | refine CallN.on (g := [(10, 1000020), (3, 1000001), (4, 1000002), (5, 1000003), (1000010, 1000010), (1000011, 1000011), (1000000, 1000000), (501, 501), (502, 502)]) (h) (by decide) (by simp) (by simp) (by simp [Sg.bk]) ?_
    | refine CallGB.on (g := [(10, 1000020), (3, 1000001), (4, 1000002), (5, 1000003), (1000010, 1000010), (1000011, 1000011), (1000000, 1000000), (501, 501), (502, 502)]) (h) (by decide) (by simp) (by simp) (by simp [Sg.bk]) ?_
  simp -dsimp
  refine retE_c (by simp -dsimp) (by simp)
theorem none1 : ECall Tryz.prog 51 [.ptr 1000010 0] (fM st1 false dC) (pB false) (fM st1 false dC) := by
  unfold fM dC dM dk st1
  refine ecall_wp Tryz.func51 rfl (by kernel_rfl) ?_
  simp -dsimp
  refine retE_c (by simp -dsimp) (by simp)
theorem ready1 : ECall Tryz.prog 48 [.ptr 1000010 0] (fM st1 false dC) (pI 0) (fM st1 false dC) := by
  have h := none1
  unfold fM dC dM dk st1 at *
  refine ecall_wp Tryz.func48 rfl (by kernel_rfl) ?_
  simp -dsimp
  first
    | refine CallG.on (g := [(1000010, 1000010), (1000011, 1000011), (1000000, 1000000), (501, 501), (502, 502)]) (h) (by decide) (by simp) (by simp) (by simp [Sg.bk]) ?_
    | refine CallN.on (g := [(1000010, 1000010), (1000011, 1000011), (1000000, 1000000), (501, 501), (502, 502)]) (h) (by decide) (by simp) (by simp) (by simp [Sg.bk]) ?_
    | refine CallGB.on (g := [(1000010, 1000010), (1000011, 1000011), (1000000, 1000000), (501, 501), (502, 502)]) (h) (by decide) (by simp) (by simp) (by simp [Sg.bk]) ?_
  simp -dsimp
  refine retE_c (by simp -dsimp) (by simp)
def sM : List (Nat × Res) := [(703, st2 728 737), (728, .row 9 1 .fz [[sV wAda]]), (737, .row 3 1 .fz [[eI 0]])]
def fM2 : List (Nat × Res) := (1000010, .blk 53 [.ptr 1000000 0, .ptr 703 0, pI 0, pI 1, pB false]) :: (1000011, st1) :: dE
theorem do_spec : ECall Tryz.prog 17 [.ptr 1000010 0, sP lHA] (fM st1 false dC) (.tup [sP wHouse, pI 0]) (fM2 ++ sM) := by
  have hr := ready1
  have hc := change1
  have hw := write_spec
  have ht := text_spec [lHA] (by simp [txt])
  have et : txt [lHA] = lHAn := rfl
  rw [et] at ht
  simp only [List.map_cons, List.map_nil] at ht
  unfold fM2 sM fM dC dE dM dk st1 st2 at *
  refine ecall_wp Tryz.func17 rfl (by kernel_rfl) ?_
  simp -dsimp
  first
    | refine CallG.on (g := [(1000010, 1000010), (1000011, 1000011), (1000000, 1000000), (501, 501), (502, 502)]) (hr) (by decide) (by simp) (by simp) (by simp [Sg.bk]) ?_
    | refine CallN.on (g := [(1000010, 1000010), (1000011, 1000011), (1000000, 1000000), (501, 501), (502, 502)]) (hr) (by decide) (by simp) (by simp) (by simp [Sg.bk]) ?_
    | refine CallGB.on (g := [(1000010, 1000010), (1000011, 1000011), (1000000, 1000000), (501, 501), (502, 502)]) (hr) (by decide) (by simp) (by simp) (by simp [Sg.bk]) ?_
  simp -dsimp
  first
    | refine CallG.on (g := [(1000011, 1000000), (703, 703), (728, 728), (737, 737)]) (hc) (by decide) (by simp) (by simp) (by simp [Sg.bk]) ?_
    | refine CallN.on (g := [(1000011, 1000000), (703, 703), (728, 728), (737, 737)]) (hc) (by decide) (by simp) (by simp) (by simp [Sg.bk]) ?_
    | refine CallGB.on (g := [(1000011, 1000000), (703, 703), (728, 728), (737, 737)]) (hc) (by decide) (by simp) (by simp) (by simp [Sg.bk]) ?_
  simp -dsimp
  refine wk_draw 8 [6, 7] mixed (by kernel_rfl) ?_
  simp -dsimp
  first
    | refine CallG.by (ht) ?_
    | refine CallGE.by (ht) ?_
    | refine CallGB.by (ht) ?_
  simp -dsimp
  first
    | refine CallG.on (g := [(1000010, 1000010), (1000011, 1000011), (1000000, 1000000), (501, 501), (502, 502)]) (hw) (by decide) (by simp) (by simp) (by simp [Sg.bk]) ?_
    | refine CallN.on (g := [(1000010, 1000010), (1000011, 1000011), (1000000, 1000000), (501, 501), (502, 502)]) (hw) (by decide) (by simp) (by simp) (by simp [Sg.bk]) ?_
    | refine CallGB.on (g := [(1000010, 1000010), (1000011, 1000011), (1000000, 1000000), (501, 501), (502, 502)]) (hw) (by decide) (by simp) (by simp) (by simp [Sg.bk]) ?_
  simp -dsimp
  refine retE_c (by simp -dsimp) (by simp)
end Go.Proofs.YtpcmmjmoiplhjaaGreatDoor
