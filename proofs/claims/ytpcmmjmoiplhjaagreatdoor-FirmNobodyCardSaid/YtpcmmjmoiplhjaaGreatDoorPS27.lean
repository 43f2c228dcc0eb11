import Derived.Test.YtpcmmjmoiplhjaaGreatDoorPS25
/- PS27: opening an argument of a type that holds slices of itself. -/
set_option linter.unusedVariables false
set_option linter.unusedSimpArgs false
namespace Go.PS
open Go Go.RowKit
/-- A formula as it is laid: a string, two numbers, and formulas. -/
inductive FT
  | mk (op : ByteArray) (a b : Int) (kids : List FT)
section
variable {P : Program} {H : Type} {enc : TypeId × Value → H} {W : World}
/-- As Opens, for so much fuel. -/
def OpensTo (K : Nat) (P : Program) {H : Type} (enc : TypeId × Value → H) (W : World) {α : Type} (t : TypeId) (m : Nat) (R : α → List TL) : Prop :=
  ∀ (fuel : Nat), fuel ≤ K → ∀ (cs : List Value) (x : DataW H × List MemPlace), DataW.trod enc P W 0 (fun _ => true) true fuel t cs = some x → (x.1.weights P t).all (· ≤ reachBytes) = true →
    ∃ a : α, cs.length = m ∧ (R a).length = m ∧ ∀ (j : Nat) (u : TL), (R a)[j]? = some u → TRep W (Under W) u (cs.getD j Go.undef)
theorem Opens.to {K : Nat} {α : Type} {t : TypeId} {m : Nat} {R : α → List TL} (h : Opens P enc W t m R) : OpensTo K P enc W t m R := fun fuel _ => h fuel
end
end Go.PS
