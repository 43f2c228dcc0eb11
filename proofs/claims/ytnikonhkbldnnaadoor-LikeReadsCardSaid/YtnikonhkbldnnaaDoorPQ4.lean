/- Opening an argument that is a string. -/
import Derived.Test.YtnikonhkbldnnaaDoorPQ3
import Derived.Test.YtnikonhkbldnnaaDoorLB40
set_option linter.unusedVariables false
set_option linter.unusedSimpArgs false
set_option maxRecDepth 100000
namespace Go.Proofs.YtnikonhkbldnnaaDoor
open Go Go.PS Go.ChangeShapes Go.WideShapes Go.ChangeAt Go.RowKit Go.Proofs.YtnikonhkbldnnaaDoor
section
variable {H : Type} {enc : TypeId × Value → H} {W : World}
theorem undS : Tryd.prog.underlying 9 = some .string := by kernel_rfl
theorem open_str {v : Value} {base : Nat} {d : DataW H} {ps : List MemPlace} (hval : Value.okWide Tryd.prog W .any base 9 v) (hd : DataW.Trod enc Tryd.prog W 0 (fun _ => true) true 9 v d ps) (hw : (d.weights Tryd.prog 9).all (· ≤ reachBytes) = true) :
    ∃ s : List UInt8, TRep W (Under W) (sV s) v := by
  unfold Value.okWide Cell.okWide Cell.ok at hval
  rw [undS] at hval
  cases v <;> first | exact hval.elim | skip
  rename_i o
  refine ⟨o.data.toList, ?_⟩
  have e : (⟨o.data.toList.toArray⟩ : ByteArray) = o := by
    apply ByteArray.ext
    simp
  show TRep W (Under W) (.v (.string ⟨o.data.toList.toArray⟩)) _
  rw [e]
  exact .v _
end
end Go.Proofs.YtnikonhkbldnnaaDoor
