import Derived.Test.YtnikonhkbldnnaaDoorLB38
import Derived.Test.YtnikonhkbldnnaaDoorLB29
/- LB39: formulas as they come are formulas of the plain kind; towns alike for some rounds agree on them. -/
set_option linter.unusedVariables false
set_option linter.unusedSimpArgs false
set_option maxRecDepth 20000
namespace Go.Proofs.YtnikonhkbldnnaaDoor
open Go Go.PS
attribute [-simp] isKeyK List.map_take
theorem hasV_parts {x : Int} {u : Bool} (h : hasV x u = true) : 0 ≤ x ∧ x < 4 ∧ (u = false → x = 0) := by
  unfold hasV at h
  simp only [Bool.and_eq_true, Bool.or_eq_true, decide_eq_true_eq] at h
  exact ⟨h.1.1, h.1.2, fun hu => by
    rcases h.2 with h' | h'
    · rw [hu] at h'
      cases h'
    · exact h'⟩
theorem ft_fo : ∀ (N : Nat) (z : FT), nodesF z ≤ N → shapedF z = true → ∃ f, ftOf f = z ∧ vokF f
  | 0, z, h, _ => by have := nodesF_pos z; omega
  | N + 1, .mk o a b ks, h, hs => by
    obtain ⟨_, hkn, hks, hk2⟩ := shaped_parts hs
    rw [shapedF, Bool.and_eq_true, nodeOk, Bool.and_eq_true, Bool.and_eq_true] at hs
    obtain ⟨⟨⟨_, ha⟩, hb⟩, _⟩ := hs
    have ha := hasV_parts ha
    have hb := hasV_parts hb
    rw [nodesF] at h
    rcases op_cases o with rfl | rfl | rfl | rfl | rfl | ho
    · rw [kidsI_eq] at hkn
      have hk : ks = [] := List.eq_nil_of_length_eq_zero (by omega)
      subst hk
      refine ⟨.eq a.toNat b.toNat, ?_, by omega, by omega⟩
      rw [ftOf, show ((a.toNat : Nat) : Int) = a by omega, show ((b.toNat : Nat) : Int) = b by omega]
    · rw [kidsI_ad] at hkn
      have hk : ks = [] := List.eq_nil_of_length_eq_zero (by omega)
      subst hk
      refine ⟨.adj a.toNat b.toNat, ?_, by omega, by omega⟩
      rw [ftOf, show ((a.toNat : Nat) : Int) = a by omega, show ((b.toNat : Nat) : Int) = b by omega]
    · rw [kidsI_no] at hkn
      obtain ⟨k, rfl⟩ : ∃ k, ks = [k] := List.length_eq_one_iff.1 (by omega)
      rw [nodesL, nodesL] at h
      obtain ⟨f, hf, hv⟩ := ft_fo N k (by omega) (hks k (by simp))
      have ha0 := ha.2.2 (by rw [kidsI_no]; simp [oNo, oEx])
      have hb0 := hb.2.2 (by rw [kidsI_no]; simp)
      exact ⟨.no f, by rw [ftOf, hf, ha0, hb0], hv⟩
    · rw [kidsI_ex] at hkn
      obtain ⟨k, rfl⟩ : ∃ k, ks = [k] := List.length_eq_one_iff.1 (by omega)
      rw [nodesL, nodesL] at h
      obtain ⟨f, hf, hv⟩ := ft_fo N k (by omega) (hks k (by simp))
      have hb0 := hb.2.2 (by rw [kidsI_ex]; simp)
      exact ⟨.ex a.toNat f, by rw [ftOf, hf, hb0, show ((a.toNat : Nat) : Int) = a by omega], by omega, hv⟩
    · rw [kidsI_an] at hkn
      obtain ⟨k, k', rfl⟩ : ∃ k k', ks = [k, k'] := by
        match ks, hkn with
        | [k, k'], _ => exact ⟨k, k', rfl⟩
        | [], h => simp at h
        | [_], h => simp at h
        | _ :: _ :: _ :: l, h =>
          simp at h
          omega
      rw [nodesL, nodesL, nodesL] at h
      have := nodesF_pos k
      have := nodesF_pos k'
      obtain ⟨f, hf, hv⟩ := ft_fo N k (by omega) (hks k (by simp))
      obtain ⟨f', hf', hv'⟩ := ft_fo N k' (by omega) (hks k' (by simp))
      have ha0 := ha.2.2 (by rw [kidsI_an]; simp [oAn, oEx])
      have hb0 := hb.2.2 (by rw [kidsI_an]; simp)
      exact ⟨.an f f', by rw [ftOf, hf, hf', ha0, hb0], hv, hv'⟩
    · rw [kidsI_none ho] at hkn
      omega
end Go.Proofs.YtnikonhkbldnnaaDoor
