/- PROVED: lampblacklaw08.PuzzleSums returns true and does not panic, whatever it is given (a Puzzle and Lines), and its arguments read as they did. CONDITIONS: none beyond the given statement's own. -/
import Derived.Test.YtmneioafbkknhaaPB60
import Derived.Test.YtmneioafbkknhaaPQ1
import Derived.Test.YtmneioafbkknhaaRows
import Derived.WalkKit
import Derived.ProofKit
import Derived.OpenShut
import Derived.ShutString
import Derived.ChangeOld
import Derived.Below
import Derived.SizedLaws
set_option linter.unusedVariables false
set_option linter.unusedSimpArgs false
set_option maxRecDepth 100000
namespace Go.Proofs.Ytmneioafbkknhaa
open Go Go.PS Go.ChangeShapes Go.WideShapes Go.ChangeAt Go.RowKit
section
variable {H : Type} {enc : TypeId × Value → H} {W : World}
theorem puzzleSums_o126 : Opens Try.prog enc W 126 (1 + 1) (fun p : Int × Int => cI p.1 ++ cI p.2) :=
  opens_struct2 (R0 := cI) (R1 := cI) Try.underlying126 rfl rfl (by kernel_rfl) (by kernel_rfl) (by kernel_rfl) o3 o3
theorem puzzleSums_o77 : Opens Try.prog enc W 77 1 (fun l : List (Int × Int) => [.sl .any 2 (l.map fun p => cI p.1 ++ cI p.2)]) :=
  opens_slice (e := 126) Try.underlying77 (by kernel_rfl) (by decide) (of_decide_eq_true (by kernel_rfl)) puzzleSums_o126
/-- An argument of the type []Line. -/
theorem puzzleSums_open_lines {v : Value} {base : Nat} {d : DataW H} {ps : List MemPlace} (hval : Value.okWide Try.prog W .any base 77 v) (hd : DataW.Trod enc Try.prog W 0 (fun _ => true) true 77 v d ps) (hw : (d.weights Try.prog 77).all (· ≤ reachBytes) = true) :
    ∃ l : List Ln, TRep W (Under W) (eLns l) v := by
  have hc : v.cells = #[v] := by
    unfold Value.okWide Cell.okWide Cell.ok at hval
    rw [Try.underlying77] at hval
    cases v <;> first | rfl | exact hval.elim
  obtain ⟨fuel, hf⟩ := hd
  rw [hc] at hf
  obtain ⟨a, h1, h2, h3⟩ := puzzleSums_o77 fuel _ _ hf hw
  refine ⟨a.map fun p => ⟨p.1, p.2⟩, ?_⟩
  have := h3 0 _ rfl
  simpa [Function.comp_def] using this
end
theorem puzzleSums_lifted (os : Os) (started : os.Started) (H : Type) (enc : TypeId × Value → H) :
    ReturnsInHanded {} Try.checked os 17 .any (Rows.puzzleSumsSpec.pre6 enc Try.prog Try.f17 Rows.puzzleSumsRow.domain false) (Rows.puzzleSumsSpec.post enc Try.prog Try.f17 false true false false) := by
  refine returnsInHanded_of_change_sized (C := Try.checked) own started (by kernel_rfl) Try.func17
    (ChangeSpec.witness6 (enc := enc) (C := Try.checked) false ⟨#[], #[.agg #[.int .i64 0, .slice none 0 0, .slice none 0 0], .slice none 0 0], []⟩ 8 (by kernel_rfl) (by kernel_rfl) (by kernel_rfl) (by kernel_rfl)) ?_
  intro W base args ds gs before hval0 hW hcnd hsz0 _
  have hsz : (DataW.weightsEach Try.prog (Try.f17.params.toList ++ Rows.puzzleSumsSpec.plain.varTypes Try.prog) (ds ++ gs)).all (· ≤ reachBytes) = true := hsz0
  have hval : ∀ (j : Nat) t v, Try.f17.params[j]? = some t → args[j]? = some v → Value.okWide Try.prog W .any base t v := hval0
  have hW' := hW
  obtain ⟨p, q, hA0, hV, rfl, hfz, hnd⟩ := hW
  have hA : DataW.TrodAll enc Try.prog W 0 (fun _ => true) true Try.f17.params.toList args.toList ds p := hA0
  rw [Try.params17] at hA hval hsz
  obtain ⟨v0, vs0, d0, ds0, p0, q0, hargs, rfl, rfl, h0, r0⟩ := trodAll_cons hA
  obtain ⟨v1, vs1, d1, ds1, p1, q1, rfl, rfl, rfl, h1, r1⟩ := trodAll_cons r0
  obtain ⟨rfl, rfl, rfl⟩ := trodAll_nil r1
  obtain rfl : args = #[v0, v1] := by cases args; simp_all
  obtain ⟨rfl, rfl⟩ := trodVars_none hV
  have hw0 : (d0.weights Try.prog 25).all (· ≤ reachBytes) = true := by
    rw [List.all_eq_true]
    intro k hk
    exact List.all_eq_true.1 hsz k (DataW.weights_mem_each (j := 0) (t := 25) rfl rfl k hk)
  have k0 := h0
  have lt0 : ∀ x ∈ p0, x.block < W.heap.size := by obtain ⟨m, hm⟩ := k0; exact DataW.trod_lt m _ _ _ hm
  obtain ⟨x0, hx0⟩ := open_puzzle (hval 0 25 v0 rfl rfl) h0 hw0
  have hw1 : (d1.weights Try.prog 77).all (· ≤ reachBytes) = true := by
    rw [List.all_eq_true]
    intro k hk
    exact List.all_eq_true.1 hsz k (DataW.weights_mem_each (j := 1) (t := 77) rfl rfl k hk)
  have k1 := h1
  have lt1 : ∀ x ∈ p1, x.block < W.heap.size := by obtain ⟨m, hm⟩ := k1; exact DataW.trod_lt m _ _ _ hm
  obtain ⟨x1, hx1⟩ := puzzleSums_open_lines (hval 1 77 v1 rfl rfl) h1 hw1
  refine Calls.mono ((sums_true x0 x1).2 W (Under W) #[v0, v1] (fun g hg => hg) rfl ?_) ?_
  · intro i x hx
    match i, hx with
    | 0, hx =>
      simp at hx
      subst hx
      exact hx0
    | 1, hx =>
      simp at hx
      subst hx
      exact hx1
    | i + 2, hx => simp at hx
  · rintro e W' ⟨v, φ, fp, rfl, hevo, _, _, _, hv⟩
    have hv' := hv.t_inv.v_inv
    subst hv'
    have bel := below_of hevo
    exact ⟨_, rfl, _, _, _, [], _, [], hW', trodAll_mk1 (shut_bool Try.underlying4 _), (trodAll_cons_mk (Below.trod laidOut (by kernel_rfl) (of_decide_eq_true (by kernel_rfl)) k0 bel lt0) (trodAll_cons_mk (Below.trod laidOut (by kernel_rfl) (of_decide_eq_true (by kernel_rfl)) k1 bel lt1) trodAll_mk0)), rfl, bel.frame _, fun h => by cases h⟩
theorem puzzleSums_holds : Rows.PuzzleSumsSaid :=
  OpenClaim.holds_of_wide 17 Try.f17 rfl rfl rfl rfl rfl rfl rfl ⟨rfl, rfl, rfl, rfl, rfl⟩ rfl rfl rfl rfl rfl (by kernel_rfl) Try.func17 (by kernel_rfl)
    (of_decide_eq_true (by kernel_rfl)) (by unfold Func.isWrapper; first | (rw [if_pos (by decide +kernel)]; kernel_rfl) | (rw [if_neg (by decide +kernel)]; exact ⟨rfl, rfl⟩))
    (fun os started H enc _ => puzzleSums_lifted os started H enc)
end Go.Proofs.Ytmneioafbkknhaa
