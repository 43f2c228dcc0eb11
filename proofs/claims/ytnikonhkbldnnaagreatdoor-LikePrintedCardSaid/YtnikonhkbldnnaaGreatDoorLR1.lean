import Derived.Test.YtnikonhkbldnnaaGreatDoorLBB
/- LR1: the reference's valid graphs; what the laws share: copies, two, nodes, awake. -/
set_option linter.unusedVariables false
set_option linter.unusedSimpArgs false
set_option maxRecDepth 20000
namespace Go.Proofs.YtnikonhkbldnnaaGreatDoor
open Go Go.PS
attribute [-simp] isKeyK List.map_take
/-- A step of the reference's way is a step of the program's. -/
theorem few_spec (xs : List Int) : PCall Tryz.prog 9 [eIs xs] (.t .ro (eIs (xs.take 10))) [] := by
  refine pcall_sl 0 rfl call9 fun hlen => ?_
  simp only [List.length_map] at hlen
  refine pcall_wp _ Tryz.func9 rfl (by kernel_rfl) rfl ?_
  have hm : (if 10 < (xs.length : Int) then (10 : Int) else (xs.length : Int)) = ((min xs.length 10 : Nat) : Int) := by
    split <;> omega
  have h1 : ((min xs.length 10 : Nat) : Int) ≤ xs.length := by omega
  have h2 : (0 : Int) ≤ ((min xs.length 10 : Nat) : Int) := by omega
  have ht : List.take (min xs.length 10) (List.map cI xs) = List.map cI (xs.take 10) := by
    rw [← List.map_take]
    congr 1
    rcases Nat.le_total xs.length 10 with h | h
    · rw [Nat.min_eq_left h, List.take_of_length_le (Nat.le_refl _), List.take_of_length_le h]
    · rw [Nat.min_eq_right h]
  generalize min xs.length 10 = m at hm h1 h2 ht
  simp -dsimp [hm, h1, h2, ht]
  first
    | refine CallG.by (clone32_spec (xs.take 10) (by simp; omega)) ?_
    | refine CallGE.by (clone32_spec (xs.take 10) (by simp; omega)) ?_
    | refine CallGB.by (clone32_spec (xs.take 10) (by simp; omega)) ?_
  simp -dsimp
  refine retP_c ?_
  simp -dsimp
/-- A copy of the beginning is valid exactly if the graph is, and is it then. -/
theorem take_isg (g : List Int) : isgB (g.take 10) = isgB g ∧ (isgB g = true → g.take 10 = g) := by
  by_cases h : g.length ≤ 10
  · rw [List.take_of_length_le h]
    exact ⟨rfl, fun _ => rfl⟩
  · have h1 : isgB g = false := by
      rw [isgB, decide_eq_false (by omega), Bool.false_and]
    have h2 : isgB (g.take 10) = false := by
      rw [isgB, decide_eq_false (by simp; omega), Bool.false_and]
    rw [h1, h2]
    exact ⟨rfl, fun h => by cases h⟩
theorem awake_spec : PCall Tryz.prog 13 [] (pB true) [] := by
  refine pcall_wp _ Tryz.func13 rfl (by kernel_rfl) rfl ?_
  have h1 := win_spec [2, 1] [0, 0] 2
  have h2 := alike_spec [2, 1] [2, 1]
  have e1 : ansF [2, 1] [0, 0] 2 [] [] = .tup [eB false, eI 0] := by kernel_rfl
  have e2 : isgB [2, 1] = true := by kernel_rfl
  have e3 : likeN (townOf [2, 1]) (townOf [2, 1]) = true := iso_like (town_tow e2) (town_tow e2) (Iso.refl (town_tow e2))
  have e4 : alkF [2, 1] [2, 1] = .tup [eB true, eI 0] := by rw [alkF, e2, e3]; rfl
  rw [e1] at h1
  rw [e4] at h2
  simp -dsimp
  first
    | refine CallG.by (h1) ?_
    | refine CallGE.by (h1) ?_
    | refine CallGB.by (h1) ?_
  simp -dsimp
  first
    | refine CallG.by (h2) ?_
    | refine CallGE.by (h2) ?_
    | refine CallGB.by (h2) ?_
  simp -dsimp
  refine retP_c ?_
  simp -dsimp
end Go.Proofs.YtnikonhkbldnnaaGreatDoor
