import Derived.Test.YtmneioafbkknhaaPB7
import Derived.Test.YtmneioafbkknhaaPSC
/- PB8: copies. -/
set_option linter.unusedVariables false
set_option linter.unusedSimpArgs false
set_option maxRecDepth 20000
namespace Go.Proofs.Ytmneioafbkknhaa
open Go Go.PS
attribute [-simp] List.map_take
theorem clone_spec (xs : List Int) (hb : xs.length * 8 ≤ 140737488355328) : PCall Try.prog 73 [eIs xs] (.t .ro (eIs xs)) [] := by
  refine pcall_any 0 rfl call73 (fun h => ?_) ?_
  · simp at h
    subst h
    refine pcall_weak (k := .fz) (x := .v (.slice none 0 0)) ?_ nil_any
    refine pcall_wp _ Try.func73 rfl (by kernel_rfl) rfl ?_
    simp -dsimp
    refine retP_c ?_
    simp -dsimp
  · refine pcall_wp _ Try.func73 rfl (by kernel_rfl) rfl ?_
    simp -dsimp [hb]
    refine retP_c ?_
    simp -dsimp
theorem list_spec (xs : List Int) : PCall Try.prog 45 [eIs xs] (.t .ro (eIs (xs.take 14))) [] := by
  refine pcall_sl 0 rfl call45 fun hlen => ?_
  simp only [List.length_map] at hlen
  refine pcall_wp _ Try.func45 rfl (by kernel_rfl) rfl ?_
  have hm : (if 14 < (xs.length : Int) then (14 : Int) else (xs.length : Int)) = ((min xs.length 14 : Nat) : Int) := by
    split <;> omega
  have h1 : ((min xs.length 14 : Nat) : Int) ≤ xs.length := by omega
  have h2 : (0 : Int) ≤ ((min xs.length 14 : Nat) : Int) := by omega
  have ht : List.take (min xs.length 14) (List.map cI xs) = List.map cI (xs.take 14) := by
    rw [← List.map_take]
    congr 1
    rcases Nat.le_total xs.length 14 with h | h
    · rw [Nat.min_eq_left h, List.take_of_length_le (Nat.le_refl _), List.take_of_length_le h]
    · rw [Nat.min_eq_right h]
  generalize min xs.length 14 = m at hm h1 h2 ht
  simp -dsimp [hm, h1, h2, ht]
  first
    | refine CallG.by (clone_spec (xs.take 14) (by simp; omega)) ?_
    | refine CallGE.by (clone_spec (xs.take 14) (by simp; omega)) ?_
    | refine CallGB.by (clone_spec (xs.take 14) (by simp; omega)) ?_
  simp -dsimp
  refine retP_c ?_
  simp -dsimp
theorem rel_spec (r : Rl) : PCall Try.prog 32 [eRl r] (.t .ro (eRl ⟨r.n, r.rows.take 14⟩)) [] := by
  refine pcall_wp _ Try.func32 rfl (by kernel_rfl) rfl ?_
  simp -dsimp
  refine wk_draw 5 [4] mixed (by kernel_rfl) ?_
  simp -dsimp
  first
    | refine CallG.by (list_spec r.rows) ?_
    | refine CallGE.by (list_spec r.rows) ?_
    | refine CallGB.by (list_spec r.rows) ?_
  simp -dsimp
  refine retP_c ?_
  simp -dsimp
end Go.Proofs.Ytmneioafbkknhaa
