/-
  DERIVED. GIVEN WITH THE SEED: THE CARDS: each row of YtgcncgocdfioiaaDoorRows.lean that lists a variable, with what it lists TIED to the program's text (the seventh form; the later family's looks); each row that meets fmt, with fmt's text TOLD by the authors' own Lean function (tested against real Go, not proved from fmt's source: count such statements apart). THE CARD IS WHAT COUNTS. Prove the row's statement (the work); the ties are given (YtgcncgocdfioiaaDoorTie.lean); close each card by the builder's one call (the guide's Derived/Test/ToyasCard.lean, 'card_holds'). Laid BY PROGRAM, IN A SANDBOX (cutbox-door.mjs). By AI agents, Wed Nov 11 2026. No macro, syntax, notation, axiom, sorry.
-/
import Derived.Test.YtgcncgocdfioiaaDoorRows
import GoSem.ClaimSeven
namespace Go.Proofs.YtgcncgocdfioiaaDoor
namespace Rows

/-- THE TIED CARD OF 'lampblacklaw01.ChaseTwo'. -/
def chaseTwoCard : Claim7 := { stood := { row := chaseTwoRow, standIns := [], harness := (true, "f615449c9444db691ffb13babb24b8c233a99beea523c37f82d083eb8b2c1563"), looks := false }, kinds := [], alts := [], laidByText := true, laidKinds := [.data, .data], laidTests := true, laidLooks := .later }
def ChaseTwoCardSaid : Prop := Claim7.holds Tryd.pinned (.plain (OpenSpec.ofChange chaseTwoSpec)) chaseTwoCard

/-- THE TIED CARD OF 'lampblacklaw01.ChaseRounds'. -/
def chaseRoundsCard : Claim7 := { stood := { row := chaseRoundsRow, standIns := [], harness := (true, "f615449c9444db691ffb13babb24b8c233a99beea523c37f82d083eb8b2c1563"), looks := false }, kinds := [], alts := [], laidByText := true, laidKinds := [.data, .data], laidTests := true, laidLooks := .later }
def ChaseRoundsCardSaid : Prop := Claim7.holds Tryd.pinned (.plain (OpenSpec.ofChange chaseRoundsSpec)) chaseRoundsCard

/-- THE TIED CARD OF 'lampblacklaw01.ChaseCorner'. -/
def chaseCornerCard : Claim7 := { stood := { row := chaseCornerRow, standIns := [], harness := (true, "f615449c9444db691ffb13babb24b8c233a99beea523c37f82d083eb8b2c1563"), looks := false }, kinds := [], alts := [], laidByText := true, laidKinds := [.data, .data], laidTests := true, laidLooks := .later }
def ChaseCornerCardSaid : Prop := Claim7.holds Tryd.pinned (.plain (OpenSpec.ofChange chaseCornerSpec)) chaseCornerCard

/-- THE TIED CARD OF 'lampblacklaw01.ChaseSafe'. -/
def chaseSafeCard : Claim7 := { stood := { row := chaseSafeRow, standIns := [], harness := (true, "f615449c9444db691ffb13babb24b8c233a99beea523c37f82d083eb8b2c1563"), looks := false }, kinds := [], alts := [], laidByText := true, laidKinds := [.data, .data], laidTests := true, laidLooks := .later }
def ChaseSafeCardSaid : Prop := Claim7.holds Tryd.pinned (.plain (OpenSpec.ofChange chaseSafeSpec)) chaseSafeCard

/-- THE TIED CARD OF 'lampblacklaw01.ChaseRanks'. -/
def chaseRanksCard : Claim7 := { stood := { row := chaseRanksRow, standIns := [], harness := (true, "f615449c9444db691ffb13babb24b8c233a99beea523c37f82d083eb8b2c1563"), looks := false }, kinds := [], alts := [], laidByText := true, laidKinds := [.data, .data], laidTests := true, laidLooks := .later }
def ChaseRanksCardSaid : Prop := Claim7.holds Tryd.pinned (.plain (OpenSpec.ofChange chaseRanksSpec)) chaseRanksCard

/-- THE TIED CARD OF 'lampblacklaw01.ChaseMoves'. -/
def chaseMovesCard : Claim7 := { stood := { row := chaseMovesRow, standIns := [], harness := (true, "f615449c9444db691ffb13babb24b8c233a99beea523c37f82d083eb8b2c1563"), looks := false }, kinds := [], alts := [], laidByText := true, laidKinds := [.data, .data], laidTests := true, laidLooks := .later }
def ChaseMovesCardSaid : Prop := Claim7.holds Tryd.pinned (.plain (OpenSpec.ofChange chaseMovesSpec)) chaseMovesCard

/-- THE TIED CARD OF 'lampblacklaw01.ChaseCorners'. -/
def chaseCornersCard : Claim7 := { stood := { row := chaseCornersRow, standIns := [], harness := (true, "f615449c9444db691ffb13babb24b8c233a99beea523c37f82d083eb8b2c1563"), looks := false }, kinds := [], alts := [], laidByText := true, laidKinds := [.data, .data], laidTests := true, laidLooks := .later }
def ChaseCornersCardSaid : Prop := Claim7.holds Tryd.pinned (.plain (OpenSpec.ofChange chaseCornersSpec)) chaseCornersCard

/-- THE TIED CARD OF 'lampblacklaw01.ChaseChecks'. -/
def chaseChecksCard : Claim7 := { stood := { row := chaseChecksRow, standIns := [], harness := (true, "f615449c9444db691ffb13babb24b8c233a99beea523c37f82d083eb8b2c1563"), looks := false }, kinds := [], alts := [], laidByText := true, laidKinds := [.data, .data], laidTests := true, laidLooks := .later }
def ChaseChecksCardSaid : Prop := Claim7.holds Tryd.pinned (.plain (OpenSpec.ofChange chaseChecksSpec)) chaseChecksCard

/-- THE TIED CARD OF 'lampblacklaw01.ChaseNames'. -/
def chaseNamesCard : Claim7 := { stood := { row := chaseNamesRow, standIns := [], harness := (true, "f615449c9444db691ffb13babb24b8c233a99beea523c37f82d083eb8b2c1563"), looks := false }, kinds := [], alts := [], laidByText := true, laidKinds := [.data, .data], laidTests := true, laidLooks := .later }
def ChaseNamesCardSaid : Prop := Claim7.holds Tryd.pinned (.plain (OpenSpec.ofChange chaseNamesSpec)) chaseNamesCard

/-- THE TIED CARD OF 'lampblacklaw01.ChaseEither'. -/
def chaseEitherCard : Claim7 := { stood := { row := chaseEitherRow, standIns := [], harness := (true, "f615449c9444db691ffb13babb24b8c233a99beea523c37f82d083eb8b2c1563"), looks := false }, kinds := [], alts := [], laidByText := true, laidKinds := [.data, .data], laidTests := true, laidLooks := .later }
def ChaseEitherCardSaid : Prop := Claim7.holds Tryd.pinned (.plain (OpenSpec.ofChange chaseEitherSpec)) chaseEitherCard

/-- THE TIED CARD OF 'lampblacklaw01.ChaseApart'. -/
def chaseApartCard : Claim7 := { stood := { row := chaseApartRow, standIns := [], harness := (true, "f615449c9444db691ffb13babb24b8c233a99beea523c37f82d083eb8b2c1563"), looks := false }, kinds := [], alts := [], laidByText := true, laidKinds := [.data, .data], laidTests := true, laidLooks := .later }
def ChaseApartCardSaid : Prop := Claim7.holds Tryd.pinned (.plain (OpenSpec.ofChange chaseApartSpec)) chaseApartCard

/-- THE TIED CARD OF 'lampblacklaw01.ChaseOne'. -/
def chaseOneCard : Claim7 := { stood := { row := chaseOneRow, standIns := [], harness := (true, "f615449c9444db691ffb13babb24b8c233a99beea523c37f82d083eb8b2c1563"), looks := false }, kinds := [], alts := [], laidByText := true, laidKinds := [.data, .data], laidTests := true, laidLooks := .later }
def ChaseOneCardSaid : Prop := Claim7.holds Tryd.pinned (.plain (OpenSpec.ofChange chaseOneSpec)) chaseOneCard

/-- THE SECOND FORM's CARD OF 'lampblacklaw01.ChaseTwo'. -/
def chaseTwoUptoCard : Claim7 := { stood := { row := chaseTwoUptoRow, standIns := [], harness := (true, "f615449c9444db691ffb13babb24b8c233a99beea523c37f82d083eb8b2c1563"), looks := false }, kinds := [], alts := [], laidByText := true, laidKinds := [.data, .data], laidTests := true, laidLooks := .later }
def ChaseTwoUptoCardSaid : Prop := Claim7.holds Tryd.pinned (.plain (OpenSpec.upto chaseTwoSpec)) chaseTwoUptoCard

/-- THE SECOND FORM's CARD OF 'lampblacklaw01.ChaseRounds'. -/
def chaseRoundsUptoCard : Claim7 := { stood := { row := chaseRoundsUptoRow, standIns := [], harness := (true, "f615449c9444db691ffb13babb24b8c233a99beea523c37f82d083eb8b2c1563"), looks := false }, kinds := [], alts := [], laidByText := true, laidKinds := [.data, .data], laidTests := true, laidLooks := .later }
def ChaseRoundsUptoCardSaid : Prop := Claim7.holds Tryd.pinned (.plain (OpenSpec.upto chaseRoundsSpec)) chaseRoundsUptoCard

/-- THE SECOND FORM's CARD OF 'lampblacklaw01.ChaseCorner'. -/
def chaseCornerUptoCard : Claim7 := { stood := { row := chaseCornerUptoRow, standIns := [], harness := (true, "f615449c9444db691ffb13babb24b8c233a99beea523c37f82d083eb8b2c1563"), looks := false }, kinds := [], alts := [], laidByText := true, laidKinds := [.data, .data], laidTests := true, laidLooks := .later }
def ChaseCornerUptoCardSaid : Prop := Claim7.holds Tryd.pinned (.plain (OpenSpec.upto chaseCornerSpec)) chaseCornerUptoCard

/-- THE SECOND FORM's CARD OF 'lampblacklaw01.ChaseSafe'. -/
def chaseSafeUptoCard : Claim7 := { stood := { row := chaseSafeUptoRow, standIns := [], harness := (true, "f615449c9444db691ffb13babb24b8c233a99beea523c37f82d083eb8b2c1563"), looks := false }, kinds := [], alts := [], laidByText := true, laidKinds := [.data, .data], laidTests := true, laidLooks := .later }
def ChaseSafeUptoCardSaid : Prop := Claim7.holds Tryd.pinned (.plain (OpenSpec.upto chaseSafeSpec)) chaseSafeUptoCard

/-- THE SECOND FORM's CARD OF 'lampblacklaw01.ChaseRanks'. -/
def chaseRanksUptoCard : Claim7 := { stood := { row := chaseRanksUptoRow, standIns := [], harness := (true, "f615449c9444db691ffb13babb24b8c233a99beea523c37f82d083eb8b2c1563"), looks := false }, kinds := [], alts := [], laidByText := true, laidKinds := [.data, .data], laidTests := true, laidLooks := .later }
def ChaseRanksUptoCardSaid : Prop := Claim7.holds Tryd.pinned (.plain (OpenSpec.upto chaseRanksSpec)) chaseRanksUptoCard

/-- THE SECOND FORM's CARD OF 'lampblacklaw01.ChaseMoves'. -/
def chaseMovesUptoCard : Claim7 := { stood := { row := chaseMovesUptoRow, standIns := [], harness := (true, "f615449c9444db691ffb13babb24b8c233a99beea523c37f82d083eb8b2c1563"), looks := false }, kinds := [], alts := [], laidByText := true, laidKinds := [.data, .data], laidTests := true, laidLooks := .later }
def ChaseMovesUptoCardSaid : Prop := Claim7.holds Tryd.pinned (.plain (OpenSpec.upto chaseMovesSpec)) chaseMovesUptoCard

/-- THE SECOND FORM's CARD OF 'lampblacklaw01.ChaseCorners'. -/
def chaseCornersUptoCard : Claim7 := { stood := { row := chaseCornersUptoRow, standIns := [], harness := (true, "f615449c9444db691ffb13babb24b8c233a99beea523c37f82d083eb8b2c1563"), looks := false }, kinds := [], alts := [], laidByText := true, laidKinds := [.data, .data], laidTests := true, laidLooks := .later }
def ChaseCornersUptoCardSaid : Prop := Claim7.holds Tryd.pinned (.plain (OpenSpec.upto chaseCornersSpec)) chaseCornersUptoCard

/-- THE SECOND FORM's CARD OF 'lampblacklaw01.ChaseChecks'. -/
def chaseChecksUptoCard : Claim7 := { stood := { row := chaseChecksUptoRow, standIns := [], harness := (true, "f615449c9444db691ffb13babb24b8c233a99beea523c37f82d083eb8b2c1563"), looks := false }, kinds := [], alts := [], laidByText := true, laidKinds := [.data, .data], laidTests := true, laidLooks := .later }
def ChaseChecksUptoCardSaid : Prop := Claim7.holds Tryd.pinned (.plain (OpenSpec.upto chaseChecksSpec)) chaseChecksUptoCard

/-- THE SECOND FORM's CARD OF 'lampblacklaw01.ChaseNames'. -/
def chaseNamesUptoCard : Claim7 := { stood := { row := chaseNamesUptoRow, standIns := [], harness := (true, "f615449c9444db691ffb13babb24b8c233a99beea523c37f82d083eb8b2c1563"), looks := false }, kinds := [], alts := [], laidByText := true, laidKinds := [.data, .data], laidTests := true, laidLooks := .later }
def ChaseNamesUptoCardSaid : Prop := Claim7.holds Tryd.pinned (.plain (OpenSpec.upto chaseNamesSpec)) chaseNamesUptoCard

/-- THE SECOND FORM's CARD OF 'lampblacklaw01.ChaseEither'. -/
def chaseEitherUptoCard : Claim7 := { stood := { row := chaseEitherUptoRow, standIns := [], harness := (true, "f615449c9444db691ffb13babb24b8c233a99beea523c37f82d083eb8b2c1563"), looks := false }, kinds := [], alts := [], laidByText := true, laidKinds := [.data, .data], laidTests := true, laidLooks := .later }
def ChaseEitherUptoCardSaid : Prop := Claim7.holds Tryd.pinned (.plain (OpenSpec.upto chaseEitherSpec)) chaseEitherUptoCard

/-- THE SECOND FORM's CARD OF 'lampblacklaw01.ChaseApart'. -/
def chaseApartUptoCard : Claim7 := { stood := { row := chaseApartUptoRow, standIns := [], harness := (true, "f615449c9444db691ffb13babb24b8c233a99beea523c37f82d083eb8b2c1563"), looks := false }, kinds := [], alts := [], laidByText := true, laidKinds := [.data, .data], laidTests := true, laidLooks := .later }
def ChaseApartUptoCardSaid : Prop := Claim7.holds Tryd.pinned (.plain (OpenSpec.upto chaseApartSpec)) chaseApartUptoCard

/-- THE SECOND FORM's CARD OF 'lampblacklaw01.ChaseOne'. -/
def chaseOneUptoCard : Claim7 := { stood := { row := chaseOneUptoRow, standIns := [], harness := (true, "f615449c9444db691ffb13babb24b8c233a99beea523c37f82d083eb8b2c1563"), looks := false }, kinds := [], alts := [], laidByText := true, laidKinds := [.data, .data], laidTests := true, laidLooks := .later }
def ChaseOneUptoCardSaid : Prop := Claim7.holds Tryd.pinned (.plain (OpenSpec.upto chaseOneSpec)) chaseOneUptoCard
end Rows
end Go.Proofs.YtgcncgocdfioiaaDoor
