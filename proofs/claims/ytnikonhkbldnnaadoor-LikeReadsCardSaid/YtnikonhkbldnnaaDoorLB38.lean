import Derived.Test.YtnikonhkbldnnaaDoorLB33
import Derived.Test.YtnikonhkbldnnaaDoorLB37
/- LB38: formulas that the program makes, as the reference reads them. -/
set_option linter.unusedVariables false
set_option linter.unusedSimpArgs false
set_option maxRecDepth 20000
namespace Go.Proofs.YtnikonhkbldnnaaDoor
open Go Go.PS
attribute [-simp] isKeyK List.map_take
theorem htF_pos (f : Fo) : 1 ≤ htF f := by cases f <;> simp [htF]
theorem szF_pos (f : Fo) : 1 ≤ szF f := by cases f <;> simp [szF]
theorem conv_ftOf : ∀ (f : Fo) (left : Nat) (n : Int), htF f ≤ left + 1 → (szF f : Int) ≤ n → convF left n (ftOf f) = (ftOf f, n - szF f)
  | .eq i j, left, n, h, hn => by rw [ftOf, convF_mk]; cases left <;> simp [cvK, convL, szF]
  | .adj i j, left, n, h, hn => by rw [ftOf, convF_mk]; cases left <;> simp [cvK, convL, szF]
  | .no f, left, n, h, hn => by
    have hp := htF_pos f
    have hz := szF_pos f
    rw [htF] at h
    rw [szF] at hn
    obtain ⟨l, rfl⟩ : ∃ l, left = l + 1 := ⟨left - 1, by omega⟩
    have ih := conv_ftOf f l (n - 1) (by omega) (by omega)
    rw [ftOf, convF_mk, cvK, convL, if_neg (by omega), ih, convL, szF]
    simp only [Prod.mk.injEq, true_and]
    omega
  | .an f g, left, n, h, hn => by
    have hp := htF_pos f
    have hz := szF_pos f
    have hz' := szF_pos g
    rw [htF] at h
    rw [szF] at hn
    obtain ⟨l, rfl⟩ : ∃ l, left = l + 1 := ⟨left - 1, by omega⟩
    have ih := conv_ftOf f l (n - 1) (by omega) (by omega)
    have ih2 := conv_ftOf g l (n - 1 - szF f) (by omega) (by omega)
    rw [ftOf, convF_mk, cvK, convL, if_neg (by omega), ih, convL, if_neg (by simp only; omega), ih2, convL, szF]
    simp only [Prod.mk.injEq, true_and]
    omega
  | .ex x f, left, n, h, hn => by
    have hp := htF_pos f
    have hz := szF_pos f
    rw [htF] at h
    rw [szF] at hn
    obtain ⟨l, rfl⟩ : ∃ l, left = l + 1 := ⟨left - 1, by omega⟩
    have ih := conv_ftOf f l (n - 1) (by omega) (by omega)
    rw [ftOf, convF_mk, cvK, convL, if_neg (by omega), ih, convL, szF]
    simp only [Prod.mk.injEq, true_and]
    omega
theorem own_ftOf (f : Fo) (h : htF f ≤ 44) (hs : szF f ≤ 2010) : ofF (ftOf f) = ftOf f := by
  rw [ofF, conv_ftOf f 43 2010 (by omega) (by omega)]
end Go.Proofs.YtnikonhkbldnnaaDoor
