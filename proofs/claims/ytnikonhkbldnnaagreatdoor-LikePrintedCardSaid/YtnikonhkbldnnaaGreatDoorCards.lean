/-
  DERIVED. GIVEN WITH THE SEED: THE CARDS: each row of YtnikonhkbldnnaaGreatDoorRows.lean that lists a variable, with what it lists TIED to the program's text (the seventh form; the later family's looks); each row that meets fmt, with fmt's text TOLD by the authors' own Lean function (tested against real Go, not proved from fmt's source: count such statements apart). THE CARD IS WHAT COUNTS. Prove the row's statement (the work); the ties are given (YtnikonhkbldnnaaGreatDoorTie.lean); close each card by the builder's one call (the guide's Derived/Test/ToyasCard.lean, 'card_holds'). Laid BY PROGRAM, IN A SANDBOX (cutbox-door.mjs). By AI agents, Wed Nov 11 2026. No macro, syntax, notation, axiom, sorry.
-/
import Derived.Test.YtnikonhkbldnnaaGreatDoorRows
import GoSem.ClaimSeven
namespace Go.Proofs.YtnikonhkbldnnaaGreatDoor
namespace Rows

/-- THE TIED CARD OF 'lampblacklaw09.LikeFractions'. -/
def likeFractionsCard : Claim7 := { stood := { row := likeFractionsRow, standIns := [], harness := (true, "e293c4693eff09c5de07da9f5a21cb5ea1df7ebbb386b34744c7de02b07743b2"), looks := true }, kinds := [], alts := [], laidByText := true, laidKinds := [.data, .data, .data, .data], laidTests := true, laidLooks := .later }
def LikeFractionsCardSaid : Prop := Claim7.holds Tryz.pinned (.plain (OpenSpec.ofChange likeFractionsSpec)) likeFractionsCard

/-- THE TIED CARD OF 'lampblacklaw09.LikeTells'. -/
def likeTellsCard : Claim7 := { stood := { row := likeTellsRow, standIns := [], harness := (true, "e293c4693eff09c5de07da9f5a21cb5ea1df7ebbb386b34744c7de02b07743b2"), looks := true }, kinds := [], alts := [], laidByText := true, laidKinds := [.data, .data], laidTests := true, laidLooks := .later }
def LikeTellsCardSaid : Prop := Claim7.holds Tryz.pinned (.plain (OpenSpec.ofChange likeTellsSpec)) likeTellsCard

/-- THE TIED CARD OF 'lampblacklaw09.LikePrinted'. -/
def likePrintedCard : Claim7 := { stood := { row := likePrintedRow, standIns := [], harness := (true, "e293c4693eff09c5de07da9f5a21cb5ea1df7ebbb386b34744c7de02b07743b2"), looks := true }, kinds := [], alts := [], laidByText := true, laidKinds := [.data, .data], laidTests := true, laidLooks := .later }
def LikePrintedCardSaid : Prop := Claim7.holds Tryz.pinned (.plain (OpenSpec.ofChange likePrintedSpec)) likePrintedCard

/-- THE TIED CARD OF 'lampblacklaw09.LikeGames'. -/
def likeGamesCard : Claim7 := { stood := { row := likeGamesRow, standIns := [], harness := (true, "e293c4693eff09c5de07da9f5a21cb5ea1df7ebbb386b34744c7de02b07743b2"), looks := true }, kinds := [], alts := [], laidByText := true, laidKinds := [.data, .data], laidTests := true, laidLooks := .later }
def LikeGamesCardSaid : Prop := Claim7.holds Tryz.pinned (.plain (OpenSpec.ofChange likeGamesSpec)) likeGamesCard

/-- THE TIED CARD OF 'lampblacklaw09.LikeTold'. -/
def likeToldCard : Claim7 := { stood := { row := likeToldRow, standIns := [], harness := (true, "e293c4693eff09c5de07da9f5a21cb5ea1df7ebbb386b34744c7de02b07743b2"), looks := true }, kinds := [], alts := [], laidByText := true, laidKinds := [.data, .data], laidTests := true, laidLooks := .later }
def LikeToldCardSaid : Prop := Claim7.holds Tryz.pinned (.plain (OpenSpec.ofChange likeToldSpec)) likeToldCard

/-- THE SECOND FORM's CARD OF 'lampblacklaw09.LikeFractions'. -/
def likeFractionsUptoCard : Claim7 := { stood := { row := likeFractionsUptoRow, standIns := [], harness := (true, "e293c4693eff09c5de07da9f5a21cb5ea1df7ebbb386b34744c7de02b07743b2"), looks := true }, kinds := [], alts := [], laidByText := true, laidKinds := [.data, .data, .data, .data], laidTests := true, laidLooks := .later }
def LikeFractionsUptoCardSaid : Prop := Claim7.holds Tryz.pinned (.plain (OpenSpec.upto likeFractionsSpec)) likeFractionsUptoCard

/-- THE SECOND FORM's CARD OF 'lampblacklaw09.LikeTells'. -/
def likeTellsUptoCard : Claim7 := { stood := { row := likeTellsUptoRow, standIns := [], harness := (true, "e293c4693eff09c5de07da9f5a21cb5ea1df7ebbb386b34744c7de02b07743b2"), looks := true }, kinds := [], alts := [], laidByText := true, laidKinds := [.data, .data], laidTests := true, laidLooks := .later }
def LikeTellsUptoCardSaid : Prop := Claim7.holds Tryz.pinned (.plain (OpenSpec.upto likeTellsSpec)) likeTellsUptoCard

/-- THE SECOND FORM's CARD OF 'lampblacklaw09.LikePrinted'. -/
def likePrintedUptoCard : Claim7 := { stood := { row := likePrintedUptoRow, standIns := [], harness := (true, "e293c4693eff09c5de07da9f5a21cb5ea1df7ebbb386b34744c7de02b07743b2"), looks := true }, kinds := [], alts := [], laidByText := true, laidKinds := [.data, .data], laidTests := true, laidLooks := .later }
def LikePrintedUptoCardSaid : Prop := Claim7.holds Tryz.pinned (.plain (OpenSpec.upto likePrintedSpec)) likePrintedUptoCard

/-- THE SECOND FORM's CARD OF 'lampblacklaw09.LikeGames'. -/
def likeGamesUptoCard : Claim7 := { stood := { row := likeGamesUptoRow, standIns := [], harness := (true, "e293c4693eff09c5de07da9f5a21cb5ea1df7ebbb386b34744c7de02b07743b2"), looks := true }, kinds := [], alts := [], laidByText := true, laidKinds := [.data, .data], laidTests := true, laidLooks := .later }
def LikeGamesUptoCardSaid : Prop := Claim7.holds Tryz.pinned (.plain (OpenSpec.upto likeGamesSpec)) likeGamesUptoCard

/-- THE SECOND FORM's CARD OF 'lampblacklaw09.LikeTold'. -/
def likeToldUptoCard : Claim7 := { stood := { row := likeToldUptoRow, standIns := [], harness := (true, "e293c4693eff09c5de07da9f5a21cb5ea1df7ebbb386b34744c7de02b07743b2"), looks := true }, kinds := [], alts := [], laidByText := true, laidKinds := [.data, .data], laidTests := true, laidLooks := .later }
def LikeToldUptoCardSaid : Prop := Claim7.holds Tryz.pinned (.plain (OpenSpec.upto likeToldSpec)) likeToldUptoCard
end Rows
end Go.Proofs.YtnikonhkbldnnaaGreatDoor
