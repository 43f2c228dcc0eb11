import Derived.Test.YtpcmmjmoiplhjaaGreatDoorPSC
import Derived.ChangeArms
import Derived.SizedLaws
import Derived.DataReads
/- PS25: what a claim reads of its arguments, as trees. -/
set_option linter.unusedVariables false
set_option linter.unusedSimpArgs false
namespace Go.PS
open Go Go.RowKit

section
variable {P : Program} {H : Type} {enc : TypeId × Value → H} {W : World}

/-- Below the heap's end. -/
def Under (W : World) (g : Nat) : Prop := g < W.heap.size

/-- Whatever reads as this type is such a tree. -/
def Opens (P : Program) {H : Type} (enc : TypeId × Value → H) (W : World) {α : Type} (t : TypeId) (m : Nat) (R : α → List TL) : Prop :=
  ∀ (fuel : Nat) (cs : List Value) (x : DataW H × List MemPlace), DataW.trod enc P W 0 (fun _ => true) true fuel t cs = some x → (x.1.weights P t).all (· ≤ reachBytes) = true →
    ∃ a : α, cs.length = m ∧ (R a).length = m ∧ ∀ (j : Nat) (u : TL), (R a)[j]? = some u → TRep W (Under W) u (cs.getD j Go.undef)

end
end Go.PS
