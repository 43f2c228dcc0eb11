/- PROVED: lampblacklaw08.PuzzleBlames returns true and does not panic, whatever puzzle it is given, and the puzzle reads as it did. CONDITIONS: none beyond the given statement's own. -/
import Derived.Test.YtmneioafbkknhaaPB14
import Derived.Test.YtmneioafbkknhaaPS25
import Derived.Test.YtmneioafbkknhaaRows
import Derived.WalkKit
import Derived.ProofKit
import Derived.OpenShut
import Derived.ShutString
import Derived.ChangeOld
import Derived.Below
import Derived.SizedLaws
set_option linter.unusedVariables false
set_option linter.unusedSimpArgs false
set_option maxRecDepth 100000
namespace Go.Proofs.Ytmneioafbkknhaa
open Go Go.PS Go.ChangeShapes Go.WideShapes Go.ChangeAt Go.RowKit

section
variable {H : Type} {enc : TypeId × Value → H} {W : World}
theorem o3 : Opens Try.prog enc W 3 1 cI := opens_int (by kernel_rfl)
theorem o37 : Opens Try.prog enc W 37 1 (fun l : List Int => [.sl .any 1 (l.map cI)]) := opens_slice (e := 3) (by kernel_rfl) (by kernel_rfl) (by decide) (of_decide_eq_true (by kernel_rfl)) o3
theorem o46 : Opens Try.prog enc W 46 (1 + 1) (fun p : Int × List Int => cI p.1 ++ [.sl .any 1 (p.2.map cI)]) :=
  opens_struct2 (R0 := cI) (R1 := fun l : List Int => [.sl .any 1 (l.map cI)]) Try.underlying46 rfl rfl (by kernel_rfl) (by kernel_rfl) (by kernel_rfl) o3 o37
theorem o87 : Opens Try.prog enc W 87 (1 + 1) (fun p : Int × List Int => cI p.1 ++ [.sl .any 1 (p.2.map cI)]) :=
  opens_struct2 (R0 := cI) (R1 := fun l : List Int => [.sl .any 1 (l.map cI)]) Try.underlying87 rfl rfl (by kernel_rfl) (by kernel_rfl) (by kernel_rfl) o3 o37
theorem o22 : Opens Try.prog enc W 22 1 (fun l : List (Int × List Int) => [.sl .any 2 (l.map fun p => cI p.1 ++ [.sl .any 1 (p.2.map cI)])]) :=
  opens_slice (e := 46) Try.underlying22 (by kernel_rfl) (by decide) (of_decide_eq_true (by kernel_rfl)) o46
theorem o23 : Opens Try.prog enc W 23 1 (fun l : List (Int × List Int) => [.sl .any 2 (l.map fun p => cI p.1 ++ [.sl .any 1 (p.2.map cI)])]) :=
  opens_slice (e := 87) Try.underlying23 (by kernel_rfl) (by decide) (of_decide_eq_true (by kernel_rfl)) o87
abbrev RawP := Int × List (Int × List Int) × List (Int × List Int)
theorem o25 : Opens Try.prog enc W 25 (1 + 1 + 1) (fun p : RawP => cI p.1 ++ ([.sl .any 2 (p.2.1.map fun p => cI p.1 ++ [.sl .any 1 (p.2.map cI)])] ++ [.sl .any 2 (p.2.2.map fun p => cI p.1 ++ [.sl .any 1 (p.2.map cI)])])) :=
  opens_struct3 (R0 := cI) (R1 := fun l : List (Int × List Int) => [.sl .any 2 (l.map fun p => cI p.1 ++ [.sl .any 1 (p.2.map cI)])]) (R2 := fun l : List (Int × List Int) => [.sl .any 2 (l.map fun p => cI p.1 ++ [.sl .any 1 (p.2.map cI)])])
    Try.underlying25 rfl rfl rfl (by kernel_rfl) (by kernel_rfl) (by kernel_rfl) (by kernel_rfl) o3 o22 o23
/-- An argument of the reference's type Puzzle. -/
theorem open_puzzle {v : Value} {base : Nat} {d : DataW H} {ps : List MemPlace} (hval : Value.okWide Try.prog W .any base 25 v) (hd : DataW.Trod enc Try.prog W 0 (fun _ => true) true 25 v d ps) (hw : (d.weights Try.prog 25).all (· ≤ reachBytes) = true) :
    ∃ p : Pz, TRep W (Under W) (ePz p) v := by
  obtain ⟨⟨n, rs, cs⟩, h⟩ := opens_arg Try.underlying25 o25 hval hd hw
  refine ⟨⟨n, rs.map fun r => ⟨r.1, r.2⟩, cs.map fun c => ⟨c.1, c.2⟩⟩, ?_⟩
  simpa [Function.comp_def] using h
end

theorem below_of {w w' : World} (h : Evo (fun _ => False) w w') : Below w.heap.size w w' := ⟨h.os, h.tape, h.output, h.size, fun k hk => h.block k hk fun h => h⟩
theorem own : ownKnob Try.prog.godebug = none := by kernel_rfl
theorem laidOut : laidOutB Try.prog = true := by kernel_rfl
theorem blames_lifted (os : Os) (started : os.Started) (H : Type) (enc : TypeId × Value → H) :
    ReturnsInHanded {} Try.checked os 3 .any (Rows.puzzleBlamesSpec.pre6 enc Try.prog Try.f3 Rows.puzzleBlamesRow.domain false) (Rows.puzzleBlamesSpec.post enc Try.prog Try.f3 false true false false) := by
  refine returnsInHanded_of_change_sized (C := Try.checked) own started (by kernel_rfl) Try.func3
    (ChangeSpec.witness6 (enc := enc) (C := Try.checked) false ⟨#[], #[.agg #[.int .i64 0, .slice none 0 0, .slice none 0 0]], []⟩ 8 (by kernel_rfl) (by kernel_rfl) (by kernel_rfl) (by kernel_rfl)) ?_
  intro W base args ds gs before hval0 hW hcnd hsz0 _
  have hsz : (DataW.weightsEach Try.prog (Try.f3.params.toList ++ Rows.puzzleBlamesSpec.plain.varTypes Try.prog) (ds ++ gs)).all (· ≤ reachBytes) = true := hsz0
  have hval : ∀ (j : Nat) t v, Try.f3.params[j]? = some t → args[j]? = some v → Value.okWide Try.prog W .any base t v := hval0
  have hW' := hW
  obtain ⟨p, q, hA0, hV, rfl, hfz, hnd⟩ := hW
  have hA : DataW.TrodAll enc Try.prog W 0 (fun _ => true) true Try.f3.params.toList args.toList ds p := hA0
  rw [Try.params3] at hA hval hsz
  obtain ⟨v0, vs0, d0, ds0, p0, q0, hargs, rfl, rfl, h0, r0⟩ := trodAll_cons hA
  obtain ⟨rfl, rfl, rfl⟩ := trodAll_nil r0
  obtain rfl : args = #[v0] := by cases args; simp_all
  obtain ⟨rfl, rfl⟩ := trodVars_none hV
  have hw0 : (d0.weights Try.prog 25).all (· ≤ reachBytes) = true := by
    rw [List.all_eq_true]
    intro k hk
    exact List.all_eq_true.1 hsz k (DataW.weights_mem_each (j := 0) (t := 25) rfl rfl k hk)
  have k0 := h0
  have lt0 : ∀ x ∈ p0, x.block < W.heap.size := by obtain ⟨m, hm⟩ := k0; exact DataW.trod_lt m _ _ _ hm
  obtain ⟨pz, hpz⟩ := open_puzzle (hval 0 25 v0 rfl rfl) h0 hw0
  refine Calls.mono ((blames_true pz).2 W (Under W) #[v0] (fun g hg => hg) rfl ?_) ?_
  · intro i x hx
    cases i with
    | zero => simp only [List.getElem?_cons_zero, Option.some.injEq] at hx; subst hx; exact hpz
    | succ i => simp at hx
  · rintro e W' ⟨v, φ, fp, rfl, hevo, _, _, _, hv⟩
    have hv' := hv.t_inv.v_inv
    subst hv'
    have bel := below_of hevo
    exact ⟨_, rfl, _, _, _, [], _, [], hW', trodAll_mk1 (shut_bool Try.underlying4 _), trodAll_cons_mk (Below.trod laidOut (by kernel_rfl) (of_decide_eq_true (by kernel_rfl)) k0 bel lt0) trodAll_mk0, rfl, bel.frame _, fun h => by cases h⟩
theorem puzzleBlames_holds : Rows.PuzzleBlamesSaid :=
  OpenClaim.holds_of_wide 3 Try.f3 rfl rfl rfl rfl rfl rfl rfl ⟨rfl, rfl, rfl, rfl, rfl⟩ rfl rfl rfl rfl rfl (by kernel_rfl) Try.func3 (by kernel_rfl)
    (of_decide_eq_true (by kernel_rfl)) (by unfold Func.isWrapper; first | (rw [if_pos (by decide +kernel)]; kernel_rfl) | (rw [if_neg (by decide +kernel)]; exact ⟨rfl, rfl⟩))
    (fun os started H enc _ => blames_lifted os started H enc)
end Go.Proofs.Ytmneioafbkknhaa
