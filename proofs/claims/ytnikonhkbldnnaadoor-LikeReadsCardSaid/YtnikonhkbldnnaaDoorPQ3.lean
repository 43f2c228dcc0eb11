/- Opening the arguments of the rows of like; the table that the rows list. -/
import Derived.Test.YtnikonhkbldnnaaDoorLBA
import Derived.Test.YtnikonhkbldnnaaDoorPS27
import Derived.Test.YtnikonhkbldnnaaDoorPS25
import Derived.Test.YtnikonhkbldnnaaDoorRows
import Derived.WalkKit
import Derived.ProofKit
import Derived.OpenShut
import Derived.ShutString
import Derived.ChangeOld
import Derived.Below
import Derived.SizedLaws
import Derived.LaidMore
import Derived.Lib.LaidTab
import Derived.Stop.Joined
import Derived.Stop.LaidErr
set_option linter.unusedVariables false
set_option linter.unusedSimpArgs false
set_option maxRecDepth 100000
namespace Go.Proofs.YtnikonhkbldnnaaDoor
open Go Go.PS Go.ChangeShapes Go.WideShapes Go.ChangeAt Go.RowKit Go.Proofs.YtnikonhkbldnnaaDoor

section
variable {H : Type} {enc : TypeId × Value → H} {W : World}
theorem o3 : Opens Tryd.prog enc W 3 1 cI := opens_int (by kernel_rfl)
end
theorem below_of {w w' : World} (h : Evo (fun _ => False) w w') : Below w.heap.size w w' := ⟨h.os, h.tape, h.output, h.size, fun k hk => h.block k hk fun h => h⟩
theorem own : ownKnob Tryd.prog.godebug = none := by kernel_rfl
theorem laidOut : laidOutB Tryd.prog = true := by kernel_rfl
def laid2 : List (String × DataW Unit) := [("math/bits.deBruijn32tab", Rows.laid_math_bits_deBruijn32tab), ("math/bits.deBruijn64tab", Rows.laid_math_bits_deBruijn64tab)]
theorem door_met (os : Os) (args : Array Value) : laidMetH Tryd.prog laid2 ((World.doorLaid Tryd.prog 400 os).forCall (fun _ _ => 0) ⟨#[], args, []⟩).memory :=
  laidMetH_of_parts3 (fuel := 8) (laidMet_of_run' 8 (by kernel_rfl) (by kernel_rfl)) (by kernel_rfl) (by kernel_rfl)
theorem tab64 : (Rows.laid_math_bits_deBruijn64tab : DataW Unit) = Lib.tabData .u8 (iL deBN) := by kernel_rfl
theorem var_lt {P : Program} {w : World} {name : String} {g : Nat} {vs : Array Value} (hg : P.globalNamed name = some g) (h : w.var? P name = some vs) : g < w.heap.size := by
  unfold World.var? at h
  rw [hg] at h
  apply Classical.byContradiction
  intro hn
  have : w.heap[g]? = none := Array.getElem?_eq_none (by omega)
  simp [this] at h
/-- What the condition gives the calculus. -/
theorem globs {W : World} (h : laidMetH Tryd.prog laid2 W) : GlobS (Base.of W (Under W)) := by
  rw [MakeChecks.laidMetH_plain _ _ _ (by kernel_rfl)] at h
  have h2 : laidMet Tryd.prog (("math/bits.deBruijn64tab", Lib.tabData .u8 (iL deBN)) :: []) W := by
    rw [← tab64]
    exact laidMet.tail h
  have hT := Lib.tabIs_of_head (t := 163) (g := 1) (e := 5) (n := 64) (by kernel_rfl) (by kernel_rfl) (by kernel_rfl) (by kernel_rfl) (by kernel_rfl) (by kernel_rfl) h2
  have hlt := var_lt (g := 1) (by kernel_rfl) hT
  intro g vs hg
  simp only [glT] at hg
  split at hg
  · rename_i e
    subst e
    cases hg
    refine ⟨hlt, hlt, fun h => h, fun j x hx => ?_⟩
    have hj : j < (iL deBN).length := by
      have := (List.getElem?_eq_some_iff.1 hx).1
      simpa [deB, iL] using this
    have := Lib.TabIs.cell (g := 1) hT (by kernel_rfl) j hj
    rw [deB, List.getElem?_map] at hx
    obtain ⟨y, hy, rfl⟩ := Option.map_eq_some_iff.1 hx
    have e2 : (iL deBN).getD j 0 = (y : Int) := by
      simp [iL, List.getD_eq_getElem?_getD, hy]
    rw [e2] at this
    exact this
  · cases hg
end Go.Proofs.YtnikonhkbldnnaaDoor
