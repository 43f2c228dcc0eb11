import Derived.Test.YtnikonhkbldnnaaDoorLBB
/- LR1: the reference's valid graphs; what the laws share: copies, two, nodes, awake. -/
set_option linter.unusedVariables false
set_option linter.unusedSimpArgs false
set_option maxRecDepth 20000
namespace Go.Proofs.YtnikonhkbldnnaaDoor
open Go Go.PS
attribute [-simp] isKeyK List.map_take
theorem awake_spec : PCall Tryd.prog 10 [] (pB true) [] := by
  refine pcall_wp _ Tryd.func10 rfl (by kernel_rfl) rfl ?_
  have h1 := win_spec [2, 1] [0, 0] 2
  have h2 := alike_spec [2, 1] [2, 1]
  have e1 : ansF [2, 1] [0, 0] 2 [] [] = .tup [eB false, eI 0] := by kernel_rfl
  have e2 : isgB [2, 1] = true := by kernel_rfl
  have e3 : likeN (townOf [2, 1]) (townOf [2, 1]) = true := iso_like (town_tow e2) (town_tow e2) (Iso.refl (town_tow e2))
  have e4 : alkF [2, 1] [2, 1] = .tup [eB true, eI 0] := by rw [alkF, e2, e3]; rfl
  rw [e1] at h1
  rw [e4] at h2
  simp -dsimp
  first
    | refine CallG.by (h1) ?_
    | refine CallGE.by (h1) ?_
    | refine CallGB.by (h1) ?_
  simp -dsimp
  first
    | refine CallG.by (h2) ?_
    | refine CallGE.by (h2) ?_
    | refine CallGB.by (h2) ?_
  simp -dsimp
  refine retP_c ?_
  simp -dsimp
end Go.Proofs.YtnikonhkbldnnaaDoor
