import Derived.Test.YtnikonhkbldnnaaDoorLB32
import Derived.Test.YtnikonhkbldnnaaDoorLWA
/- LB33: formulas that the program makes are formulas as they come. -/
set_option linter.unusedVariables false
set_option linter.unusedSimpArgs false
set_option maxRecDepth 20000
namespace Go.Proofs.YtnikonhkbldnnaaDoor
open Go Go.PS
attribute [-simp] isKeyK List.map_take
def ftOf : Fo → FT
  | .eq i j => .mk oEq i j []
  | .adj i j => .mk oAd i j []
  | .no f => .mk oNo 0 0 [ftOf f]
  | .an f g => .mk oAn 0 0 [ftOf f, ftOf g]
  | .ex x f => .mk oEx x 0 [ftOf f]
theorem ftOf_nodes : ∀ f : Fo, nodesF (ftOf f) = szF f
  | .eq i j => by simp [ftOf, nodesF, nodesL, szF]
  | .adj i j => by simp [ftOf, nodesF, nodesL, szF]
  | .no f => by simp [ftOf, nodesF, nodesL, szF, ftOf_nodes f]; omega
  | .an f g => by simp [ftOf, nodesF, nodesL, szF, ftOf_nodes f, ftOf_nodes g]; omega
  | .ex x f => by simp [ftOf, nodesF, nodesL, szF, ftOf_nodes f]; omega
theorem ftOf_dp : ∀ f : Fo, dpF (ftOf f) = htF f
  | .eq i j => by simp [ftOf, dpF, dpL, htF]
  | .adj i j => by simp [ftOf, dpF, dpL, htF]
  | .no f => by simp [ftOf, dpF, dpL, htF, ftOf_dp f]; omega
  | .an f g => by simp [ftOf, dpF, dpL, htF, ftOf_dp f, ftOf_dp g]; omega
  | .ex x f => by simp [ftOf, dpF, dpL, htF, ftOf_dp f]; omega
theorem nil4 {w : World} {S : Nat → Prop} {v : Value} (h : TRep w S nilT v) : TRep w S (.sl .any 4 []) v := by
  have hv := h.v_inv
  subst hv
  exact .sl (cap := 0) (fun _ _ => Go.undef) (Nat.le_refl _) (fun h => by cases h) (fun h => by cases h) (fun _ => rfl) (by simp) (.inl rfl) (by simp) (fun i j e x he => by simp at he)
end Go.Proofs.YtnikonhkbldnnaaDoor
