/- The closed facts of the row of lampblacklaw10.FirmNobody, each by itself. -/
import Derived.Test.YtpcmmjmoiplhjaaGreatDoorPQF
import Derived.SevenTiedAt
import Derived.Test.YtpcmmjmoiplhjaaGreatDoorCards
import Derived.Test.YtpcmmjmoiplhjaaGreatDoorTie
set_option maxRecDepth 100000
namespace Go.Proofs.YtpcmmjmoiplhjaaGreatDoor
open Go Go.PS Go.ChangeShapes Go.WideShapes Go.ChangeAt Go.RowKit Go.Proofs.YtpcmmjmoiplhjaaGreatDoor
theorem firmNobody_c0 : (Rows.firmNobodyRow.wf (OpenSpec.ofChange Rows.firmNobodySpec)) = true := by kernel_rfl
theorem firmNobody_c1 : (laidOutB Tryz.prog) = true := by kernel_rfl
theorem firmNobody_c2 : (mapsRowed Tryz.prog) = true := by kernel_rfl
theorem firmNobody_c3 : (Tryz.f4.params.all (Tryz.prog.readableRec ·)) = true := by kernel_rfl
theorem firmNobody_c4 : (namedTie Tryz.prog Rows.firmNobodyRow.named Rows.firmNobodySpec.vars) = true := by kernel_rfl
theorem firmNobody_c5 : ((Rows.firmNobodyRow.stops == [])) = true := by kernel_rfl
theorem firmNobody_c6 : ((Tryz.prog.stops == [])) = true := by kernel_rfl
theorem firmNobody_c7 : ((Rows.firmNobodyRow.knobs == [])) = true := by kernel_rfl
theorem firmNobody_c8 : ((Tryz.prog.stopKnobs == [])) = true := by kernel_rfl
theorem firmNobody_c9 : ((Rows.firmNobodyRow.inPlace == Tryz.prog.inPlace 4)) = true := by kernel_rfl
theorem firmNobody_c10 : ((Rows.firmNobodyRow.unfollowed == Tryz.prog.unfollowed 4)) = true := by kernel_rfl
theorem firmNobody_c11 : ((Rows.firmNobodyRow.recurses == Tryz.prog.recurses 4)) = true := by kernel_rfl
theorem firmNobody_c12 : ((Rows.firmNobodyRow.named == Tryz.prog.varsNamed 4)) = true := by kernel_rfl
theorem firmNobody_c13 : ((Rows.firmNobodyRow.maps == (Tryz.f4.params.toList ++ Rows.firmNobodySpec.plain.varTypes Tryz.prog).any (Tryz.prog.mapsRec ·))) = true := by kernel_rfl
theorem firmNobody_c14 : ((Rows.firmNobodyRow.ifaces == (Tryz.f4.params.toList ++ Rows.firmNobodySpec.plain.varTypes Tryz.prog).any (Tryz.prog.ifacesRec ·))) = true := by kernel_rfl
theorem firmNobody_c15 : ((Rows.firmNobodyRow.mapsOut == Tryz.prog.mapsAmong Tryz.f4.resultTypes.toList)) = true := by kernel_rfl
theorem firmNobody_c16 : ((Rows.firmNobodyRow.loops == (Tryz.f4.params.toList ++ Rows.firmNobodySpec.plain.varTypes Tryz.prog).any (Tryz.prog.loopsFrom ·))) = true := by kernel_rfl
theorem firmNobody_c17 : ((Rows.firmNobodyRow.wideKeys == (Tryz.f4.params.toList ++ Rows.firmNobodySpec.plain.varTypes Tryz.prog ++ Tryz.f4.resultTypes.toList).any (Tryz.prog.wideKeysFrom ·))) = true := by kernel_rfl
theorem firmNobody_c18 : (Rows.firmNobodySpec.vars.all (Tryz.prog.varReadable ·)) = true := by kernel_rfl
theorem firmNobody_c19 : (Tryz.f4.resultTypes.all (fun t => Tryz.prog.readableRec t && decide (t < Tryz.prog.types.size))) = true := by kernel_rfl
theorem firmNobody_c20 : ((Rows.firmNobodyRow.ifacesOut == Tryz.f4.resultTypes.toList.any (Tryz.prog.ifacesRec ·))) = true := by kernel_rfl
theorem firmNobody_c21 : ((Rows.firmNobodyRow.loopsOut == Tryz.f4.resultTypes.toList.any (Tryz.prog.loopsFrom ·))) = true := by kernel_rfl
theorem firmNobody_c22 : ((Rows.firmNobodyRow.plainKeys == Tryz.prog.plainKeys)) = true := by kernel_rfl
theorem firmNobody_c23 : (Rows.firmNobodyRow.shortTexts.isNone) = true := by kernel_rfl
theorem firmNobody_c24 : (Tryz.prog.stopsHeard) = true := by kernel_rfl
theorem firmNobody_c25 : (Tryz.prog.mayEnter) = true := by kernel_rfl
theorem firmNobody_c26 : ((Rows.firmNobodyRow.lifted == Tryz.prog.liftsFinal)) = true := by kernel_rfl
theorem firmNobody_c27 : ((Tryz.prog.make == some Rows.firmNobodyRow.make)) = true := by kernel_rfl
theorem firmNobody_c28 : ((Rows.firmNobodyRow.kinds == (if Rows.firmNobodyRow.domain.isEmpty then [] else Tryz.f4.params.toList.map fun t => match Tryz.prog.underlying t with | some (.int k) => some k | _ => none))) = true := by kernel_rfl
theorem firmNobody_c29 : ((Rows.firmNobodyRow.pinned == Rows.firmNobodyRow.pinnedBy)) = true := by kernel_rfl
theorem firmNobody_c30 : ((Rows.firmNobodyRow.veiled == (Tryz.f4.params.toList ++ Rows.firmNobodySpec.plain.varTypes Tryz.prog ++ Tryz.f4.resultTypes.toList).any (Tryz.prog.veiledRec ·))) = true := by kernel_rfl
theorem firmNobody_c31 : (Rows.firmNobodyRow.veiledFits Tryz.prog Tryz.f4.params.toList (Tryz.f4.params.toList ++ Rows.firmNobodySpec.plain.varTypes Tryz.prog ++ Tryz.f4.resultTypes.toList)) = true := by kernel_rfl
theorem firmNobody_h1 : Rows.firmNobodyRow.wfByText (OpenSpec.ofChange Rows.firmNobodySpec) = true := by kernel_rfl
theorem firmNobody_h2 : Tryz.pinned.checked.prog.mainIs = some (Rows.firmNobodyCard.stood.harness.1, Rows.firmNobodyCard.stood.harness.2.toList) := by kernel_rfl
theorem firmNobody_h3 : true = Tryz.prog.looks [] := by kernel_rfl
theorem firmNobody_h4 : false = Rows.firmNobodyRow.goesBy Tryz.prog := by kernel_rfl
theorem firmNobody_h5 : Tryz.prog.funcNamed "lampblack/lampblacklaw10.FirmNobody" = some 4 := by kernel_rfl
theorem firmNobody_closed : joinedFacts Tryz.prog 4 Tryz.f4 Rows.firmNobodySpec Rows.firmNobodyRow = true := by
  unfold joinedFacts
  simp only [Bool.and_eq_true]
  exact ⟨⟨⟨⟨⟨⟨⟨⟨⟨⟨⟨⟨⟨⟨⟨⟨⟨⟨⟨⟨⟨⟨⟨⟨⟨⟨⟨⟨⟨⟨⟨firmNobody_c0, firmNobody_c1⟩, firmNobody_c2⟩, firmNobody_c3⟩, firmNobody_c4⟩, firmNobody_c5⟩, firmNobody_c6⟩, firmNobody_c7⟩, firmNobody_c8⟩, firmNobody_c9⟩, firmNobody_c10⟩, firmNobody_c11⟩, firmNobody_c12⟩, firmNobody_c13⟩, firmNobody_c14⟩, firmNobody_c15⟩, firmNobody_c16⟩, firmNobody_c17⟩, firmNobody_c18⟩, firmNobody_c19⟩, firmNobody_c20⟩, firmNobody_c21⟩, firmNobody_c22⟩, firmNobody_c23⟩, firmNobody_c24⟩, firmNobody_c25⟩, firmNobody_c26⟩, firmNobody_c27⟩, firmNobody_c28⟩, firmNobody_c29⟩, firmNobody_c30⟩, firmNobody_c31⟩
end Go.Proofs.YtpcmmjmoiplhjaaGreatDoor
