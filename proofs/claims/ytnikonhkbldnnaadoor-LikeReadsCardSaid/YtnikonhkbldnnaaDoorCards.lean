/-
  DERIVED. GIVEN WITH THE SEED: THE CARDS: each row of YtnikonhkbldnnaaDoorRows.lean that lists a variable, with what it lists TIED to the program's text (the seventh form; the later family's looks); each row that meets fmt, with fmt's text TOLD by the authors' own Lean function (tested against real Go, not proved from fmt's source: count such statements apart). THE CARD IS WHAT COUNTS. Prove the row's statement (the work); the ties are given (YtnikonhkbldnnaaDoorTie.lean); close each card by the builder's one call (the guide's Derived/Test/ToyasCard.lean, 'card_holds'). Laid BY PROGRAM, IN A SANDBOX (cutbox-door.mjs). By AI agents, Wed Nov 11 2026. No macro, syntax, notation, axiom, sorry.
-/
import Derived.Test.YtnikonhkbldnnaaDoorRows
import GoSem.ClaimSeven
namespace Go.Proofs.YtnikonhkbldnnaaDoor
namespace Rows

/-- THE TIED CARD OF 'lampblacklaw09.LikePrints'. -/
def likePrintsCard : Claim7 := { stood := { row := likePrintsRow, standIns := [], harness := (true, "4fb6dc037cadd9f7a7c22a869ad54b4809a55100c063147e3847d9982d16ecc0"), looks := true }, kinds := [], alts := [], laidByText := true, laidKinds := [.data, .data], laidTests := true, laidLooks := .later }
def LikePrintsCardSaid : Prop := Claim7.holds Tryd.pinned (.plain (OpenSpec.ofChange likePrintsSpec)) likePrintsCard

/-- THE TIED CARD OF 'lampblacklaw09.LikeHolds'. -/
def likeHoldsCard : Claim7 := { stood := { row := likeHoldsRow, standIns := [], harness := (true, "4fb6dc037cadd9f7a7c22a869ad54b4809a55100c063147e3847d9982d16ecc0"), looks := true }, kinds := [], alts := [], laidByText := true, laidKinds := [.data, .data], laidTests := true, laidLooks := .later }
def LikeHoldsCardSaid : Prop := Claim7.holds Tryd.pinned (.plain (OpenSpec.ofChange likeHoldsSpec)) likeHoldsCard

/-- THE TIED CARD OF 'lampblacklaw09.LikeReads'. -/
def likeReadsCard : Claim7 := { stood := { row := likeReadsRow, standIns := [], harness := (true, "4fb6dc037cadd9f7a7c22a869ad54b4809a55100c063147e3847d9982d16ecc0"), looks := true }, kinds := [], alts := [], laidByText := true, laidKinds := [.data, .data], laidTests := true, laidLooks := .later }
def LikeReadsCardSaid : Prop := Claim7.holds Tryd.pinned (.plain (OpenSpec.ofChange likeReadsSpec)) likeReadsCard

/-- THE SECOND FORM's CARD OF 'lampblacklaw09.LikePrints'. -/
def likePrintsUptoCard : Claim7 := { stood := { row := likePrintsUptoRow, standIns := [], harness := (true, "4fb6dc037cadd9f7a7c22a869ad54b4809a55100c063147e3847d9982d16ecc0"), looks := true }, kinds := [], alts := [], laidByText := true, laidKinds := [.data, .data], laidTests := true, laidLooks := .later }
def LikePrintsUptoCardSaid : Prop := Claim7.holds Tryd.pinned (.plain (OpenSpec.upto likePrintsSpec)) likePrintsUptoCard

/-- THE SECOND FORM's CARD OF 'lampblacklaw09.LikeHolds'. -/
def likeHoldsUptoCard : Claim7 := { stood := { row := likeHoldsUptoRow, standIns := [], harness := (true, "4fb6dc037cadd9f7a7c22a869ad54b4809a55100c063147e3847d9982d16ecc0"), looks := true }, kinds := [], alts := [], laidByText := true, laidKinds := [.data, .data], laidTests := true, laidLooks := .later }
def LikeHoldsUptoCardSaid : Prop := Claim7.holds Tryd.pinned (.plain (OpenSpec.upto likeHoldsSpec)) likeHoldsUptoCard

/-- THE SECOND FORM's CARD OF 'lampblacklaw09.LikeReads'. -/
def likeReadsUptoCard : Claim7 := { stood := { row := likeReadsUptoRow, standIns := [], harness := (true, "4fb6dc037cadd9f7a7c22a869ad54b4809a55100c063147e3847d9982d16ecc0"), looks := true }, kinds := [], alts := [], laidByText := true, laidKinds := [.data, .data], laidTests := true, laidLooks := .later }
def LikeReadsUptoCardSaid : Prop := Claim7.holds Tryd.pinned (.plain (OpenSpec.upto likeReadsSpec)) likeReadsUptoCard
end Rows
end Go.Proofs.YtnikonhkbldnnaaDoor
