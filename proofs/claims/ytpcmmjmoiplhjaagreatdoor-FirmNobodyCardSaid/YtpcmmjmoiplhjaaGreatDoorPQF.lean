/- Opening the arguments of the rows of firm; the variables that the rows list. -/
import Derived.Test.YtpcmmjmoiplhjaaGreatDoorLA2
import Derived.Test.YtpcmmjmoiplhjaaGreatDoorPS27
import Derived.Test.YtpcmmjmoiplhjaaGreatDoorPS25
import Derived.Test.YtpcmmjmoiplhjaaGreatDoorRows
import Derived.WalkKit
import Derived.ProofKit
import Derived.OpenShut
import Derived.ShutString
import Derived.ChangeOld
import Derived.Below
import Derived.SizedLaws
import Derived.LaidMore
import Derived.Lay
import Derived.Lib.LaidTab
import Derived.Stop.Joined
import Derived.Stop.LaidErr
set_option linter.unusedVariables false
set_option linter.unusedSimpArgs false
set_option maxRecDepth 100000
namespace Go.Proofs.YtpcmmjmoiplhjaaGreatDoor
open Go Go.PS Go.ChangeShapes Go.WideShapes Go.ChangeAt Go.RowKit Go.Proofs.YtpcmmjmoiplhjaaGreatDoor
section
variable {H : Type} {enc : TypeId × Value → H} {W : World}
theorem undS : Tryz.prog.underlying 9 = some .string := by kernel_rfl
/-- A string, with the bound of its bytes. -/
abbrev Str := {s : List UInt8 // s.length ≤ reachBytes}
theorem opens_str : Opens Tryz.prog enc W 9 1 (fun s : Str => [sV s.1]) := by
  intro fuel cs x h hw
  obtain ⟨s, rfl, rfl, _⟩ := DataW.trod_string undS h
  have e : (⟨s.data.toList.toArray⟩ : ByteArray) = s := by
    apply ByteArray.ext
    simp
  have hb : s.data.toList.length ≤ reachBytes := by
    simpa [DataW.weights] using hw
  refine ⟨⟨s.data.toList, hb⟩, rfl, rfl, fun j u hu => ?_⟩
  cases j with
  | zero =>
    simp only [List.getElem?_cons_zero, Option.some.injEq] at hu
    subst hu
    show TRep _ _ (.v (.string ⟨s.data.toList.toArray⟩)) _
    rw [e]
    exact .v _
  | succ j => simp at hu
theorem open_str {v : Value} {base : Nat} {d : DataW H} {ps : List MemPlace} (hval : Value.okWide Tryz.prog W .any base 9 v) (hd : DataW.Trod enc Tryz.prog W 0 (fun _ => true) true 9 v d ps) (hw : (d.weights Tryz.prog 9).all (· ≤ reachBytes) = true) :
    ∃ s : Str, TRep W (Under W) (sV s.1) v := by
  have hc : v.cells = #[v] := by
    unfold Value.okWide Cell.okWide Cell.ok at hval
    rw [undS] at hval
    cases v <;> first | rfl | exact hval.elim
  obtain ⟨fuel, hf⟩ := hd
  rw [hc] at hf
  obtain ⟨a, h1, h2, h3⟩ := opens_str fuel _ _ hf hw
  refine ⟨a, ?_⟩
  have := h3 0 _ rfl
  simpa using this
end
theorem below_of {w w' : World} (h : Evo (fun _ => False) w w') : Below w.heap.size w w' := ⟨h.os, h.tape, h.output, h.size, fun k hk => h.block k hk fun h => h⟩
theorem own : ownKnob Tryz.prog.godebug = none := by kernel_rfl
theorem laidOut : laidOutB Tryz.prog = true := by kernel_rfl
def laid2 : List (String × DataW Unit) := [("math/bits.deBruijn32tab", Rows.laid_math_bits_deBruijn32tab), ("math/bits.deBruijn64tab", Rows.laid_math_bits_deBruijn64tab), ("internal/strconv.uint64pow10", Rows.laid_internal_strconv_uint64pow10), ("unicode/utf8.acceptRanges", Rows.laid_unicode_utf8_acceptRanges), ("strconv.ErrRange", Rows.laid_strconv_ErrRange), ("strconv.ErrSyntax", Rows.laid_strconv_ErrSyntax), ("unicode/utf8.first", Rows.laid_unicode_utf8_first)]
theorem door_met (os : Os) (args : Array Value) : laidMetH Tryz.prog laid2 ((World.laidAll Tryz.prog os laid2).forCall (fun _ _ => 0) ⟨#[], args, []⟩).memory := by
  rw [MakeChecks.laidMetH_plain _ _ _ (by kernel_rfl)]
  exact laidMet_laidAll _ (by kernel_rfl) (by kernel_rfl)
theorem var_lt {P : Program} {w : World} {name : String} {g : Nat} {vs : Array Value} (hg : P.globalNamed name = some g) (h : w.var? P name = some vs) : g < w.heap.size := by
  unfold World.var? at h
  rw [hg] at h
  apply Classical.byContradiction
  intro hn
  have : w.heap[g]? = none := Array.getElem?_eq_none (by omega)
  simp [this] at h
theorem rowE (u : TypeId) (h : Tryz.prog.typeName? 3 u = some "*errors.errorString") : u = 290 :=
  typeName_ptr_named (nm := "errors.errorString") (by kernel_rfl) (by kernel_rfl) (by decide) u h
/-- What the condition gives the calculus. -/
theorem globs {W : World} (h : laidMetH Tryz.prog laid2 W) : GlobS (Base.of W (Under W)) := by
  rw [MakeChecks.laidMetH_plain _ _ _ (by kernel_rfl)] at h
  have h2 : laidMet Tryz.prog (("strconv.ErrSyntax", Rows.laid_strconv_ErrSyntax) :: [("unicode/utf8.first", Rows.laid_unicode_utf8_first)]) W := h.tail.tail.tail.tail.tail
  obtain ⟨a0, s0, hv, _⟩ := laid_sentinel (g := 1) h2 (by kernel_rfl) (by kernel_rfl) Tryz.underlying91 rowE Tryz.underlying290 Tryz.underlying292 rfl rfl Tryz.underlying9 (by kernel_rfl) (by kernel_rfl)
  have hlt := var_lt (g := 1) (by kernel_rfl) hv
  refine ⟨fun g vs hg => by simp [glT] at hg, fun g hg => ?_⟩
  have e : g = 1 := by simpa [glU] using hg
  subst e
  exact ⟨hlt, hlt, fun h => h, _, rfl, World.var?_cell (by kernel_rfl) hv 0⟩
end Go.Proofs.YtpcmmjmoiplhjaaGreatDoor
