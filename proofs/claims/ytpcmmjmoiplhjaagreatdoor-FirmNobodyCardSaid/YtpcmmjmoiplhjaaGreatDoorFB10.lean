import Derived.Test.YtpcmmjmoiplhjaaGreatDoorFB9
/- FB10: Open of a new disk. -/
set_option linter.unusedVariables false
set_option linter.unusedSimpArgs false
set_option maxRecDepth 20000
namespace Go.Proofs.YtpcmmjmoiplhjaaGreatDoor
open Go Go.PS
attribute [-simp] isKeyK List.map_take
@[simp] theorem bys_nil : bys [] = [] := rfl
@[simp] theorem bytesOf_nil : bytesOf [] = some [] := rfl
def fm1 (d s : Nat) : Res := .blk 53 [.ptr d 0, .ptr s 0, pI 0, pI 1, pB false]
theorem begin_own : PCall Tryz.prog 42 [] (.ptr 0 0) [(0, st1)] := by
  unfold st1
  refine pcall_wp _ Tryz.func42 rfl (by kernel_rfl) rfl ?_
  simp -dsimp
  exact retP_own 2 (by simp; rfl) (by simp) (by simp) (by simp) (by simp)
def opB (i : Nat) : List (Nat × Res) := if i = 0 then [(4, .blk 67 [nilP, nilP])] else if i = 1 then [(4, .blk 67 [.osl 611, nilP]), (611, .row 5 1 .ro (bys []))] else [(4, .blk 67 [.osl 611, .osl 612]), (611, .row 5 1 .ro (bys [])), (612, .row 5 1 .ro (bys []))]
theorem open_spec : ECall Tryz.prog 12 [.ptr 1000000 0] dA (.tup [.ptr 71 0, pI 0]) (dC ++ [(71, fm1 1000000 69), (69, st1)]) := by
  have hn := noneD_spec [] [] 0 0 100 (-1) false rfl
  have hr0 := Read0_spec [] [] 0 0 100 (-1) rfl (by simp)
  have hr1 := Read1_spec [] [] 0 0 100 (-1) rfl (by simp)
  have hrd := read0
  have hst := steps0
  have hb := begin_own
  have k1 : IntKind.i64.wrap 1 = 1 := rfl
  have k2 : IntKind.i64.wrap 2 = 2 := rfl
  unfold dA dC fm1 oM clS st1 dM dk at *
  simp only [bys_nil] at hn hr0 hr1 hst ⊢
  refine ecall_wp Tryz.func12 rfl (by kernel_rfl) ?_
  simp -dsimp
  first
    | refine CallG.on (g := [(1000000, 1000000), (501, 501), (502, 502)]) (hn) (by decide) (by simp) (by simp) (by simp [Sg.bk]) ?_
    | refine CallN.on (g := [(1000000, 1000000), (501, 501), (502, 502)]) (hn) (by decide) (by simp) (by simp) (by simp [Sg.bk]) ?_
    | refine CallGB.on (g := [(1000000, 1000000), (501, 501), (502, 502)]) (hn) (by decide) (by simp) (by simp) (by simp [Sg.bk]) ?_
  simp -dsimp
  refine wk_loop (fun i : Nat => ⟨[(17, pI i), (1, .ptr 1 0), (4, .ptr 4 0), (5, .ptr 5 0), (6, .ptr 6 0)], [(1, .blk 23 [.ptr 1000000 0]), (5, .blk 75 [pI 0, pI 0, nilA, pI 0, pI 0, nilA]), (6, .blk 3 [pI (-1)])] ++ opB i ++ [(1000000, .blk 41 [.osl 501, pI 0, .osl 502, pI 0, pI 100, pB false, pI (-1)]), (501, .row 5 1 .ro []), (502, .row 5 1 .ro [])]⟩) (fun i => i ≤ 2) (fun i => 2 - i) 0
    (le_of (by simp) (by simp [opB])) (by simp) fun i hi => ?_
  rcases (by omega : i = 0 ∨ i = 1 ∨ i = 2) with rfl | rfl | rfl
  all_goals unfold opB
  all_goals simp only [Nat.reduceLeDiff, Nat.zero_le, Nat.le_refl, if_true, if_false, Nat.reduceEqDiff, Nat.one_ne_zero, List.cons_append, List.nil_append, bys_nil]
  · simp -dsimp
    first
      | refine CallG.on (g := [(1000000, 1000000), (501, 501), (502, 502), (611, 26)]) (hr0) (by decide) (by simp) (by simp) (by simp [Sg.bk]) ?_
      | refine CallN.on (g := [(1000000, 1000000), (501, 501), (502, 502), (611, 26)]) (hr0) (by decide) (by simp) (by simp) (by simp [Sg.bk]) ?_
      | refine CallGB.on (g := [(1000000, 1000000), (501, 501), (502, 502), (611, 26)]) (hr0) (by decide) (by simp) (by simp) (by simp [Sg.bk]) ?_
    simp -dsimp
    first
      | refine CallG.on (g := []) (hrd) (by decide) (by simp) (by simp) (by simp [Sg.bk]) ?_
      | refine CallN.on (g := []) (hrd) (by decide) (by simp) (by simp) (by simp [Sg.bk]) ?_
      | refine CallGB.on (g := []) (hrd) (by decide) (by simp) (by simp) (by simp [Sg.bk]) ?_
    simp -dsimp
    refine wk_draw 11 [] mixed (by kernel_rfl) ?_
    simp -dsimp [k1]
    refine LoopP_next 1 (le_of (by simp) (by simp [opB])) (by omega) (by omega)
  · simp -dsimp
    first
      | refine CallG.on (g := [(1000000, 1000000), (501, 501), (502, 502), (612, 26)]) (hr1) (by decide) (by simp) (by simp) (by simp [Sg.bk]) ?_
      | refine CallN.on (g := [(1000000, 1000000), (501, 501), (502, 502), (612, 26)]) (hr1) (by decide) (by simp) (by simp) (by simp [Sg.bk]) ?_
      | refine CallGB.on (g := [(1000000, 1000000), (501, 501), (502, 502), (612, 26)]) (hr1) (by decide) (by simp) (by simp) (by simp [Sg.bk]) ?_
    simp -dsimp
    first
      | refine CallG.on (g := []) (hrd) (by decide) (by simp) (by simp) (by simp [Sg.bk]) ?_
      | refine CallN.on (g := []) (hrd) (by decide) (by simp) (by simp) (by simp [Sg.bk]) ?_
      | refine CallGB.on (g := []) (hrd) (by decide) (by simp) (by simp) (by simp [Sg.bk]) ?_
    simp -dsimp
    refine wk_draw 11 [] mixed (by kernel_rfl) ?_
    simp -dsimp [k2]
    refine LoopP_next 2 (le_of (by simp) (by simp [opB])) (by omega) (by omega)
  · simp -dsimp
    first
      | refine CallG.on (g := [(63, 1000002), (1, 1000001), (1000000, 1000000), (501, 501), (502, 502)]) (hst) (by decide) (by simp) (by simp) (by simp [Sg.bk]) ?_
      | refine CallN.on (g := [(63, 1000002), (1, 1000001), (1000000, 1000000), (501, 501), (502, 502)]) (hst) (by decide) (by simp) (by simp) (by simp [Sg.bk]) ?_
      | refine CallGB.on (g := [(63, 1000002), (1, 1000001), (1000000, 1000000), (501, 501), (502, 502)]) (hst) (by decide) (by simp) (by simp) (by simp [Sg.bk]) ?_
    simp -dsimp
    refine wk_draw 2 [1] mixed (by kernel_rfl) ?_
    simp -dsimp
    refine CallGE.by1 hb ?_
    simp -dsimp
    refine retE_c (by simp -dsimp) (by simp)
end Go.Proofs.YtpcmmjmoiplhjaaGreatDoor
