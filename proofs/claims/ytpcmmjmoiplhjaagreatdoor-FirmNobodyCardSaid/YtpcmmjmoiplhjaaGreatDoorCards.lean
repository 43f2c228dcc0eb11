/-
  DERIVED. GIVEN WITH THE SEED: THE CARDS: each row of YtpcmmjmoiplhjaaGreatDoorRows.lean that lists a variable, with what it lists TIED to the program's text (the seventh form; the later family's looks); each row that meets fmt, with fmt's text TOLD by the authors' own Lean function (tested against real Go, not proved from fmt's source: count such statements apart). THE CARD IS WHAT COUNTS. Prove the row's statement (the work); the ties are given (YtpcmmjmoiplhjaaGreatDoorTie.lean); close each card by the builder's one call (the guide's Derived/Test/ToyasCard.lean, 'card_holds'). Laid BY PROGRAM, IN A SANDBOX (cutbox-door.mjs). By AI agents, Wed Nov 11 2026. No macro, syntax, notation, axiom, sorry.
-/
import Derived.Test.YtpcmmjmoiplhjaaGreatDoorRows
import GoSem.ClaimSeven
namespace Go.Proofs.YtpcmmjmoiplhjaaGreatDoor
namespace Rows

/-- THE TIED CARD OF 'lampblacklaw10.FirmDisks'. -/
def firmDisksCard : Claim7 := { stood := { row := firmDisksRow, standIns := [], harness := (true, "6cfce56586a7ba4d1913ccb141d3e86f7ad43c6fbf86a228669ba090512b1090"), looks := true }, kinds := [], alts := [], laidByText := true, laidKinds := [.data, .data, .data, .data, .sentinel, .sentinel, .pinned], laidTests := true, laidLooks := .later }
def FirmDisksCardSaid : Prop := Claim7.holds Tryz.pinned (.plain (OpenSpec.ofChange firmDisksSpec)) firmDisksCard

/-- THE TIED CARD OF 'lampblacklaw10.FirmNobody'. -/
def firmNobodyCard : Claim7 := { stood := { row := firmNobodyRow, standIns := [], harness := (true, "6cfce56586a7ba4d1913ccb141d3e86f7ad43c6fbf86a228669ba090512b1090"), looks := true }, kinds := [], alts := [], laidByText := true, laidKinds := [.data, .data, .data, .data, .sentinel, .sentinel, .pinned], laidTests := true, laidLooks := .later }
def FirmNobodyCardSaid : Prop := Claim7.holds Tryz.pinned (.plain (OpenSpec.ofChange firmNobodySpec)) firmNobodyCard

/-- THE SECOND FORM's CARD OF 'lampblacklaw10.FirmDisks'. -/
def firmDisksUptoCard : Claim7 := { stood := { row := firmDisksUptoRow, standIns := [], harness := (true, "6cfce56586a7ba4d1913ccb141d3e86f7ad43c6fbf86a228669ba090512b1090"), looks := true }, kinds := [], alts := [], laidByText := true, laidKinds := [.data, .data, .data, .data, .sentinel, .sentinel, .pinned], laidTests := true, laidLooks := .later }
def FirmDisksUptoCardSaid : Prop := Claim7.holds Tryz.pinned (.plain (OpenSpec.upto firmDisksSpec)) firmDisksUptoCard

/-- THE SECOND FORM's CARD OF 'lampblacklaw10.FirmNobody'. -/
def firmNobodyUptoCard : Claim7 := { stood := { row := firmNobodyUptoRow, standIns := [], harness := (true, "6cfce56586a7ba4d1913ccb141d3e86f7ad43c6fbf86a228669ba090512b1090"), looks := true }, kinds := [], alts := [], laidByText := true, laidKinds := [.data, .data, .data, .data, .sentinel, .sentinel, .pinned], laidTests := true, laidLooks := .later }
def FirmNobodyUptoCardSaid : Prop := Claim7.holds Tryz.pinned (.plain (OpenSpec.upto firmNobodySpec)) firmNobodyUptoCard
end Rows
end Go.Proofs.YtpcmmjmoiplhjaaGreatDoor
