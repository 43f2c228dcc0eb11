import Derived.Test.YtnikonhkbldnnaaDoorLB28
import Derived.Test.YtnikonhkbldnnaaDoorLB19
/- LB29: depth, closed. -/
set_option linter.unusedVariables false
set_option linter.unusedSimpArgs false
set_option maxRecDepth 20000
namespace Go.Proofs.YtnikonhkbldnnaaDoor
open Go Go.PS
attribute [-simp] isKeyK List.map_take
theorem ft_split (f : FT) : ∃ o a b ks, f = FT.mk o a b ks := by
  cases f
  exact ⟨_, _, _, _, rfl⟩
theorem take_snoc {α : Type} {l : List α} {i : Nat} (h : i < l.length) : l.take (i + 1) = l.take i ++ [l[i]] := List.take_succ_eq_append_getElem h
theorem shaped_parts {o : ByteArray} {a b : Int} {ks : List FT} (h : shapedF (.mk o a b ks) = true) : (∃ x y : Nat, a = x ∧ b = y ∧ x < 4 ∧ y < 4) ∧ kidsI o = ks.length ∧ (∀ k ∈ ks, shapedF k = true) ∧ ks.length ≤ 2 := by
  rw [shapedF, shapedL_all, Bool.and_eq_true, List.all_eq_true] at h
  obtain ⟨h1, h2⟩ := h
  unfold nodeOk hasV at h1
  simp only [Bool.and_eq_true, decide_eq_true_eq] at h1
  refine ⟨⟨a.toNat, b.toNat, by omega, by omega, by omega, by omega⟩, h1.1.1, h2, ?_⟩
  have : kidsI o ≤ 2 := by
    rcases op_cases o with rfl | rfl | rfl | rfl | rfl | h
    · rw [kidsI_eq]; omega
    · rw [kidsI_ad]; omega
    · rw [kidsI_no]; omega
    · rw [kidsI_ex]; omega
    · rw [kidsI_an]; omega
    · rw [kidsI_none h]; omega
  omega
end Go.Proofs.YtnikonhkbldnnaaDoor
