/- Opening the arguments of the rows of like; the table that the rows list. -/
import Derived.Test.YtnikonhkbldnnaaGreatDoorLBA
import Derived.Test.YtnikonhkbldnnaaGreatDoorPS27
import Derived.Test.YtnikonhkbldnnaaGreatDoorPS25
import Derived.Test.YtnikonhkbldnnaaGreatDoorRows
import Derived.WalkKit
import Derived.ProofKit
import Derived.OpenShut
import Derived.ShutString
import Derived.ChangeOld
import Derived.Below
import Derived.SizedLaws
import Derived.LaidMore
import Derived.Lib.LaidTab
import Derived.Stop.Joined
import Derived.Stop.LaidErr
set_option linter.unusedVariables false
set_option linter.unusedSimpArgs false
set_option maxRecDepth 100000
namespace Go.Proofs.YtnikonhkbldnnaaGreatDoor
open Go Go.PS Go.ChangeShapes Go.WideShapes Go.ChangeAt Go.RowKit Go.Proofs.YtnikonhkbldnnaaGreatDoor

section
variable {H : Type} {enc : TypeId × Value → H} {W : World}
theorem o3 : Opens Tryz.prog enc W 3 1 cI := opens_int (by kernel_rfl)
theorem o23 : Opens Tryz.prog enc W 23 1 (fun l : List Int => [.sl .any 1 (l.map cI)]) := opens_slice (e := 3) (by kernel_rfl) (by kernel_rfl) (by decide) (of_decide_eq_true (by kernel_rfl)) o3
/-- An argument of a slice type. -/
theorem open_sl {t : Nat} {A : Type} {R : A → List TL} {sz : Nat} {e : Nat} (ht : Tryz.prog.underlying t = some (.slice e)) (o : Opens Tryz.prog enc W t 1 (fun l : List A => [.sl .any sz (l.map R)])) {v : Value} {base : Nat} {d : DataW H} {ps : List MemPlace} (hval : Value.okWide Tryz.prog W .any base t v) (hd : DataW.Trod enc Tryz.prog W 0 (fun _ => true) true t v d ps) (hw : (d.weights Tryz.prog t).all (· ≤ reachBytes) = true) :
    ∃ l : List A, TRep W (Under W) (.sl .any sz (l.map R)) v := by
  have hc : v.cells = #[v] := by
    unfold Value.okWide Cell.okWide Cell.ok at hval
    rw [ht] at hval
    cases v <;> first | rfl | exact hval.elim
  obtain ⟨fuel, hf⟩ := hd
  rw [hc] at hf
  obtain ⟨a, h1, h2, h3⟩ := o fuel _ _ hf hw
  refine ⟨a, ?_⟩
  have := h3 0 _ rfl
  simpa using this
theorem open_graph {v : Value} {base : Nat} {d : DataW H} {ps : List MemPlace} (hval : Value.okWide Tryz.prog W .any base 23 v) (hd : DataW.Trod enc Tryz.prog W 0 (fun _ => true) true 23 v d ps) (hw : (d.weights Tryz.prog 23).all (· ≤ reachBytes) = true) :
    ∃ l : List Int, TRep W (Under W) (eIs l) v := open_sl (e := 3) (by kernel_rfl) o23 hval hd hw
theorem oFm : Opens Tryz.prog enc W 44 4 ftC := opens_form Tryz.underlying44 rfl rfl rfl rfl (by kernel_rfl) (by kernel_rfl) (by kernel_rfl) (by kernel_rfl) (by kernel_rfl) (by kernel_rfl) (by kernel_rfl) (by kernel_rfl) (by kernel_rfl) (of_decide_eq_true (by kernel_rfl))
theorem open_form {v : Value} {base : Nat} {d : DataW H} {ps : List MemPlace} (hval : Value.okWide Tryz.prog W .any base 44 v) (hd : DataW.Trod enc Tryz.prog W 0 (fun _ => true) true 44 v d ps) (hw : (d.weights Tryz.prog 44).all (· ≤ reachBytes) = true) :
    ∃ f : FT, TRep W (Under W) (.agg (ftC f)) v := opens_arg Tryz.underlying44 oFm hval hd hw
end
theorem below_of {w w' : World} (h : Evo (fun _ => False) w w') : Below w.heap.size w w' := ⟨h.os, h.tape, h.output, h.size, fun k hk => h.block k hk fun h => h⟩
theorem own : ownKnob Tryz.prog.godebug = none := by kernel_rfl
theorem laidOut : laidOutB Tryz.prog = true := by kernel_rfl
def laid2 : List (String × DataW Unit) := [("math/bits.deBruijn32tab", Rows.laid_math_bits_deBruijn32tab), ("math/bits.deBruijn64tab", Rows.laid_math_bits_deBruijn64tab)]
theorem door_met (os : Os) (args : Array Value) : laidMetH Tryz.prog laid2 ((World.doorLaid Tryz.prog 400 os).forCall (fun _ _ => 0) ⟨#[], args, []⟩).memory :=
  laidMetH_of_parts3 (fuel := 8) (laidMet_of_run' 8 (by kernel_rfl) (by kernel_rfl)) (by kernel_rfl) (by kernel_rfl)
theorem tab64 : (Rows.laid_math_bits_deBruijn64tab : DataW Unit) = Lib.tabData .u8 (iL deBN) := by kernel_rfl
theorem var_lt {P : Program} {w : World} {name : String} {g : Nat} {vs : Array Value} (hg : P.globalNamed name = some g) (h : w.var? P name = some vs) : g < w.heap.size := by
  unfold World.var? at h
  rw [hg] at h
  apply Classical.byContradiction
  intro hn
  have : w.heap[g]? = none := Array.getElem?_eq_none (by omega)
  simp [this] at h
/-- What the condition gives the calculus. -/
theorem globs {W : World} (h : laidMetH Tryz.prog laid2 W) : GlobS (Base.of W (Under W)) := by
  rw [MakeChecks.laidMetH_plain _ _ _ (by kernel_rfl)] at h
  have h2 : laidMet Tryz.prog (("math/bits.deBruijn64tab", Lib.tabData .u8 (iL deBN)) :: []) W := by
    rw [← tab64]
    exact laidMet.tail h
  have hT := Lib.tabIs_of_head (t := 198) (g := 3) (e := 5) (n := 64) (by kernel_rfl) (by kernel_rfl) (by kernel_rfl) (by kernel_rfl) (by kernel_rfl) (by kernel_rfl) h2
  have hlt := var_lt (g := 3) (by kernel_rfl) hT
  intro g vs hg
  simp only [glT] at hg
  split at hg
  · rename_i e
    subst e
    cases hg
    refine ⟨hlt, hlt, fun h => h, fun j x hx => ?_⟩
    have hj : j < (iL deBN).length := by
      have := (List.getElem?_eq_some_iff.1 hx).1
      simpa [deB, iL] using this
    have := Lib.TabIs.cell (g := 3) hT (by kernel_rfl) j hj
    rw [deB, List.getElem?_map] at hx
    obtain ⟨y, hy, rfl⟩ := Option.map_eq_some_iff.1 hx
    have e2 : (iL deBN).getD j 0 = (y : Int) := by
      simp [iL, List.getD_eq_getElem?_getD, hy]
    rw [e2] at this
    exact this
  · cases hg
end Go.Proofs.YtnikonhkbldnnaaGreatDoor
