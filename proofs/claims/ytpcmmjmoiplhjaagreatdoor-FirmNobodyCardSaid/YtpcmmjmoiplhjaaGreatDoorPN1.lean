/- PROVED: lampblacklaw10.FirmNobody returns true and does not panic, whatever it is given (any line and numbers), and its arguments read as they did. The statement is a tied card: the variables that the row lists read as the program's text lays them; the tie is the given one. CONDITIONS: none beyond the given statement's own. -/
import Derived.Test.YtpcmmjmoiplhjaaGreatDoorFN2
import Derived.Test.YtpcmmjmoiplhjaaGreatDoorPQF
import Derived.Test.YtpcmmjmoiplhjaaGreatDoorPJ1
import Derived.Test.YtpcmmjmoiplhjaaGreatDoorRows
import Derived.Test.YtpcmmjmoiplhjaaGreatDoorCards
import Derived.Test.YtpcmmjmoiplhjaaGreatDoorTie
import Derived.SevenTiedAt
import Derived.WalkKit
import Derived.ProofKit
import Derived.OpenShut
import Derived.ShutString
import Derived.ChangeOld
import Derived.Below
import Derived.SizedLaws
set_option linter.unusedVariables false
set_option linter.unusedSimpArgs false
set_option maxRecDepth 100000
namespace Go.Proofs.YtpcmmjmoiplhjaaGreatDoor
open Go Go.PS Go.ChangeShapes Go.WideShapes Go.ChangeAt Go.RowKit Go.Proofs.YtpcmmjmoiplhjaaGreatDoor
theorem firmNobody_lifted (os : Os) (started : os.Started) (H : Type) (enc : TypeId × Value → H) :
    ReturnsInHanded {} Tryz.checked os 4 .any (fun w args => (Rows.firmNobodySpec.pre enc Tryz.prog Tryz.f4 Rows.firmNobodyRow.domain false w args ∧ laidMetH Tryz.prog laid2 w) ∧ sizedMet enc Tryz.prog Tryz.f4 (OpenSpec.ofChange Rows.firmNobodySpec) false w args)
      (Rows.firmNobodySpec.post enc Tryz.prog Tryz.f4 false true false false) := by
  refine returnsInHanded_of_change_and (C := Tryz.checked) (X := fun w _ => laidMetH Tryz.prog laid2 w) (fun _ _ _ hh h => h.of_heap hh) own started (by kernel_rfl) Tryz.func4
    (ChangeSpec.witness_shaped (enc := enc) (C := Tryz.checked) (os := os) (X := fun w _ => laidMetH Tryz.prog laid2 w) false (World.laidAll Tryz.prog os laid2) #[.string ByteArray.empty, .int .i64 0, .int .i64 0] 8 (World.laidAll_os _ _ _) (World.shaped_of_ZipB (by kernel_rfl) (by kernel_rfl)) (by kernel_rfl) (by kernel_rfl) (by kernel_rfl) (door_met os _)) ?_
  intro W base args ds gs before hval0 hW hcnd hsz0 hL _
  have hG := globs hL
  have hsz : (DataW.weightsEach Tryz.prog (Tryz.f4.params.toList ++ Rows.firmNobodySpec.plain.varTypes Tryz.prog) (ds ++ gs)).all (· ≤ reachBytes) = true := hsz0
  have hval : ∀ (j : Nat) t v, Tryz.f4.params[j]? = some t → args[j]? = some v → Value.okWide Tryz.prog W .any base t v := hval0
  have hW' := hW
  obtain ⟨p, q, hA0, hV, rfl, hfz, hnd⟩ := hW
  have hA : DataW.TrodAll enc Tryz.prog W 0 (fun _ => true) true Tryz.f4.params.toList args.toList ds p := hA0
  rw [Tryz.params4] at hA hval hsz
  obtain ⟨v0, vs0, d0, ds0, p0, q0, hargs, rfl, rfl, h0, r0⟩ := trodAll_cons hA
  obtain ⟨v1, vs1, d1, ds1, p1, q1, rfl, rfl, rfl, h1, r1⟩ := trodAll_cons r0
  obtain ⟨v2, vs2, d2, ds2, p2, q2, rfl, rfl, rfl, h2, r2⟩ := trodAll_cons r1
  obtain ⟨rfl, rfl, rfl⟩ := trodAll_nil r2
  obtain rfl : args = #[v0, v1, v2] := by cases args; simp_all
  obtain ⟨rfl, rfl⟩ := trodVars_none hV
  have hw0 : (d0.weights Tryz.prog 9).all (· ≤ reachBytes) = true := by
    rw [List.all_eq_true]
    intro k hk
    exact List.all_eq_true.1 hsz k (DataW.weights_mem_each (j := 0) (t := 9) rfl rfl k hk)
  have k0 := h0
  have lt0 : ∀ x ∈ p0, x.block < W.heap.size := by obtain ⟨m, hm⟩ := k0; exact DataW.trod_lt m _ _ _ hm
  obtain ⟨x0, hx0⟩ := open_str (hval 0 9 v0 rfl rfl) h0 hw0
  obtain ⟨n1, rfl, rfl, rfl, wf1⟩ := open_int Tryz.underlying3 (hval 1 3 v1 rfl rfl) h1
  obtain ⟨n2, rfl, rfl, rfl, wf2⟩ := open_int Tryz.underlying3 (hval 2 3 v2 rfl rfl) h2
  refine Calls.mono ((nobody_true x0.1 (Nat.le_trans x0.2 (by decide)) n1 n2).2 W (Under W) #[v0, .int .i64 n1, .int .i64 n2] hG (fun g hg => hg) rfl ?_) ?_
  · intro i x hx
    match i, hx with
    | 0, hx =>
      simp at hx
      subst hx
      exact hx0
    | 1, hx =>
      simp at hx
      subst hx
      exact (.v _)
    | 2, hx =>
      simp at hx
      subst hx
      exact (.v _)
    | i + 3, hx => simp at hx
  · rintro e W' ⟨v, φ, fp, rfl, hevo, _, _, _, hv⟩
    have hv' := hv.t_inv.v_inv
    subst hv'
    have bel := below_of hevo
    exact ⟨_, rfl, _, _, _, [], _, [], hW', trodAll_mk1 (shut_bool Tryz.underlying4 _), (trodAll_cons_mk (Below.trod laidOut (by kernel_rfl) (of_decide_eq_true (by kernel_rfl)) k0 bel lt0) (trodAll_cons_mk (shut_int Tryz.underlying3 wf1) (trodAll_cons_mk (shut_int Tryz.underlying3 wf2) trodAll_mk0))), rfl, bel.frame _, fun h => by cases h⟩
theorem firmNobody_row : Rows.FirmNobodySaid :=
  OpenClaim.holds_of_wide 4 Tryz.f4 rfl rfl rfl rfl rfl rfl rfl ⟨rfl, rfl, rfl, rfl, rfl⟩ rfl rfl rfl rfl rfl firmNobody_h5 Tryz.func4 firmNobody_closed
    (of_decide_eq_true (by kernel_rfl)) (by unfold Func.isWrapper; first | (rw [if_pos (by decide +kernel)]; kernel_rfl) | (rw [if_neg (by decide +kernel)]; exact ⟨rfl, rfl⟩))
    (fun os started H enc _ => firmNobody_lifted os started H enc)
theorem firmNobody_holds : Rows.FirmNobodyCardSaid :=
  Claim7.holds_tied_plain_at .later [] [.data, .data, .data, .data, .sentinel, .sentinel, .pinned] true Rows.firmNobodyCard.stood.harness true
    firmNobody_row (fun _ h => by cases h) firmNobody_h1 (fun _ h => by cases h) firmNobody_row_tie rfl ⟨rfl, rfl⟩ firmNobody_h2 rfl
    (fun f fn hf hfn => by
      obtain rfl : f = 4 := Option.some.inj (firmNobody_h5.symm.trans hf) |>.symm
      obtain rfl : fn = Tryz.f4 := (Option.some.inj (Tryz.func4.symm.trans hfn)).symm
      exact ⟨firmNobody_h3, fun j t ht => by
        rw [Tryz.params4] at ht
        have hm : t ∈ [9, 3, 3] := by simpa using Array.mem_of_getElem? ht
        have hall : ([9, 3, 3].all fun u => !Tryz.prog.wantsStandIn u) = true := by kernel_rfl
        exact (show Tryz.prog.wantsStandIn t = false by simpa using List.all_eq_true.1 hall t hm)⟩)
    firmNobody_h4
end Go.Proofs.YtpcmmjmoiplhjaaGreatDoor
