/- Opening the arguments of the rows of puzzle. -/
import Derived.Test.YtmneioafbkknhaaPB14
import Derived.Test.YtmneioafbkknhaaPS25
import Derived.Test.YtmneioafbkknhaaRows
import Derived.WalkKit
import Derived.ProofKit
import Derived.OpenShut
import Derived.ShutString
import Derived.ChangeOld
import Derived.Below
import Derived.SizedLaws
set_option linter.unusedVariables false
set_option linter.unusedSimpArgs false
set_option maxRecDepth 100000
namespace Go.Proofs.Ytmneioafbkknhaa
open Go Go.PS Go.ChangeShapes Go.WideShapes Go.ChangeAt Go.RowKit

section
variable {H : Type} {enc : TypeId × Value → H} {W : World}
theorem o3 : Opens Try.prog enc W 3 1 cI := opens_int (by kernel_rfl)
theorem o37 : Opens Try.prog enc W 37 1 (fun l : List Int => [.sl .any 1 (l.map cI)]) := opens_slice (e := 3) (by kernel_rfl) (by kernel_rfl) (by decide) (of_decide_eq_true (by kernel_rfl)) o3
theorem o46 : Opens Try.prog enc W 46 (1 + 1) (fun p : Int × List Int => cI p.1 ++ [.sl .any 1 (p.2.map cI)]) :=
  opens_struct2 (R0 := cI) (R1 := fun l : List Int => [.sl .any 1 (l.map cI)]) Try.underlying46 rfl rfl (by kernel_rfl) (by kernel_rfl) (by kernel_rfl) o3 o37
theorem o87 : Opens Try.prog enc W 87 (1 + 1) (fun p : Int × List Int => cI p.1 ++ [.sl .any 1 (p.2.map cI)]) :=
  opens_struct2 (R0 := cI) (R1 := fun l : List Int => [.sl .any 1 (l.map cI)]) Try.underlying87 rfl rfl (by kernel_rfl) (by kernel_rfl) (by kernel_rfl) o3 o37
theorem o22 : Opens Try.prog enc W 22 1 (fun l : List (Int × List Int) => [.sl .any 2 (l.map fun p => cI p.1 ++ [.sl .any 1 (p.2.map cI)])]) :=
  opens_slice (e := 46) Try.underlying22 (by kernel_rfl) (by decide) (of_decide_eq_true (by kernel_rfl)) o46
theorem o23 : Opens Try.prog enc W 23 1 (fun l : List (Int × List Int) => [.sl .any 2 (l.map fun p => cI p.1 ++ [.sl .any 1 (p.2.map cI)])]) :=
  opens_slice (e := 87) Try.underlying23 (by kernel_rfl) (by decide) (of_decide_eq_true (by kernel_rfl)) o87
abbrev RawP := Int × List (Int × List Int) × List (Int × List Int)
theorem o25 : Opens Try.prog enc W 25 (1 + 1 + 1) (fun p : RawP => cI p.1 ++ ([.sl .any 2 (p.2.1.map fun p => cI p.1 ++ [.sl .any 1 (p.2.map cI)])] ++ [.sl .any 2 (p.2.2.map fun p => cI p.1 ++ [.sl .any 1 (p.2.map cI)])])) :=
  opens_struct3 (R0 := cI) (R1 := fun l : List (Int × List Int) => [.sl .any 2 (l.map fun p => cI p.1 ++ [.sl .any 1 (p.2.map cI)])]) (R2 := fun l : List (Int × List Int) => [.sl .any 2 (l.map fun p => cI p.1 ++ [.sl .any 1 (p.2.map cI)])])
    Try.underlying25 rfl rfl rfl (by kernel_rfl) (by kernel_rfl) (by kernel_rfl) (by kernel_rfl) o3 o22 o23
/-- An argument of the reference's type Puzzle. -/
theorem open_puzzle {v : Value} {base : Nat} {d : DataW H} {ps : List MemPlace} (hval : Value.okWide Try.prog W .any base 25 v) (hd : DataW.Trod enc Try.prog W 0 (fun _ => true) true 25 v d ps) (hw : (d.weights Try.prog 25).all (· ≤ reachBytes) = true) :
    ∃ p : Pz, TRep W (Under W) (ePz p) v := by
  obtain ⟨⟨n, rs, cs⟩, h⟩ := opens_arg Try.underlying25 o25 hval hd hw
  refine ⟨⟨n, rs.map fun r => ⟨r.1, r.2⟩, cs.map fun c => ⟨c.1, c.2⟩⟩, ?_⟩
  simpa [Function.comp_def] using h
/-- An argument of the reference's type Rel. -/
theorem open_rel {v : Value} {base : Nat} {d : DataW H} {ps : List MemPlace} (hval : Value.okWide Try.prog W .any base 46 v) (hd : DataW.Trod enc Try.prog W 0 (fun _ => true) true 46 v d ps) (hw : (d.weights Try.prog 46).all (· ≤ reachBytes) = true) :
    ∃ r : Rl, TRep W (Under W) (eRl r) v := by
  obtain ⟨⟨n, rs⟩, h⟩ := opens_arg Try.underlying46 o46 hval hd hw
  refine ⟨⟨n, rs⟩, ?_⟩
  simpa [Function.comp_def] using h
/-- An argument of the type []int. -/
theorem open_list {v : Value} {base : Nat} {d : DataW H} {ps : List MemPlace} (hval : Value.okWide Try.prog W .any base 37 v) (hd : DataW.Trod enc Try.prog W 0 (fun _ => true) true 37 v d ps) (hw : (d.weights Try.prog 37).all (· ≤ reachBytes) = true) :
    ∃ l : List Int, TRep W (Under W) (eIs l) v := by
  have hc : v.cells = #[v] := by
    unfold Value.okWide Cell.okWide Cell.ok at hval
    rw [Try.underlying37] at hval
    cases v <;> first | rfl | exact hval.elim
  obtain ⟨fuel, hf⟩ := hd
  rw [hc] at hf
  obtain ⟨a, h1, h2, h3⟩ := o37 fuel _ _ hf hw
  refine ⟨a, ?_⟩
  have := h3 0 _ rfl
  simpa using this
end

theorem below_of {w w' : World} (h : Evo (fun _ => False) w w') : Below w.heap.size w w' := ⟨h.os, h.tape, h.output, h.size, fun k hk => h.block k hk fun h => h⟩
theorem own : ownKnob Try.prog.godebug = none := by kernel_rfl
theorem laidOut : laidOutB Try.prog = true := by kernel_rfl
end Go.Proofs.Ytmneioafbkknhaa
