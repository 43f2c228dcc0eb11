/-
  DERIVED. GIVEN WITH THE SEED: THE CARDS: each row of YtfcbmcmkakceaaaDoorRows.lean that lists a variable, with what it lists TIED to the program's text (the seventh form; the later family's looks); each row that meets fmt, with fmt's text TOLD by the authors' own Lean function (tested against real Go, not proved from fmt's source: count such statements apart). THE CARD IS WHAT COUNTS. Prove the row's statement (the work); the ties are given (YtfcbmcmkakceaaaDoorTie.lean); close each card by the builder's one call (the guide's Derived/Test/ToyasCard.lean, 'card_holds'). Laid BY PROGRAM, IN A SANDBOX (cutbox-door.mjs). By AI agents, Wed Nov 11 2026. No macro, syntax, notation, axiom, sorry.
-/
import Derived.Test.YtfcbmcmkakceaaaDoorRows
import GoSem.ClaimSeven
namespace Go.Proofs.YtfcbmcmkakceaaaDoor
namespace Rows

/-- THE TIED CARD OF 'lampblacklaw09.LikeWins'. -/
def likeWinsCard : Claim7 := { stood := { row := likeWinsRow, standIns := [], harness := (true, "0b3f6406f77db93b7d351c159f3e83ed723aab81c5b9bed1eee7625061a9c7cd"), looks := true }, kinds := [], alts := [], laidByText := true, laidKinds := [.data, .data], laidTests := true, laidLooks := .later }
def LikeWinsCardSaid : Prop := Claim7.holds Tryd.pinned (.plain (OpenSpec.ofChange likeWinsSpec)) likeWinsCard

/-- THE TIED CARD OF 'lampblacklaw09.LikeAnswers'. -/
def likeAnswersCard : Claim7 := { stood := { row := likeAnswersRow, standIns := [], harness := (true, "0b3f6406f77db93b7d351c159f3e83ed723aab81c5b9bed1eee7625061a9c7cd"), looks := true }, kinds := [], alts := [], laidByText := true, laidKinds := [.data, .data], laidTests := true, laidLooks := .later }
def LikeAnswersCardSaid : Prop := Claim7.holds Tryd.pinned (.plain (OpenSpec.ofChange likeAnswersSpec)) likeAnswersCard

/-- THE TIED CARD OF 'lampblacklaw09.LikeRefines'. -/
def likeRefinesCard : Claim7 := { stood := { row := likeRefinesRow, standIns := [], harness := (true, "0b3f6406f77db93b7d351c159f3e83ed723aab81c5b9bed1eee7625061a9c7cd"), looks := true }, kinds := [], alts := [], laidByText := true, laidKinds := [.data, .data], laidTests := true, laidLooks := .later }
def LikeRefinesCardSaid : Prop := Claim7.holds Tryd.pinned (.plain (OpenSpec.ofChange likeRefinesSpec)) likeRefinesCard

/-- THE TIED CARD OF 'lampblacklaw09.LikeMaps'. -/
def likeMapsCard : Claim7 := { stood := { row := likeMapsRow, standIns := [], harness := (true, "0b3f6406f77db93b7d351c159f3e83ed723aab81c5b9bed1eee7625061a9c7cd"), looks := true }, kinds := [], alts := [], laidByText := true, laidKinds := [.data, .data], laidTests := true, laidLooks := .later }
def LikeMapsCardSaid : Prop := Claim7.holds Tryd.pinned (.plain (OpenSpec.ofChange likeMapsSpec)) likeMapsCard

/-- THE TIED CARD OF 'lampblacklaw09.LikeTrees'. -/
def likeTreesCard : Claim7 := { stood := { row := likeTreesRow, standIns := [], harness := (true, "0b3f6406f77db93b7d351c159f3e83ed723aab81c5b9bed1eee7625061a9c7cd"), looks := true }, kinds := [], alts := [], laidByText := true, laidKinds := [.data, .data], laidTests := true, laidLooks := .later }
def LikeTreesCardSaid : Prop := Claim7.holds Tryd.pinned (.plain (OpenSpec.ofChange likeTreesSpec)) likeTreesCard

/-- THE TIED CARD OF 'lampblacklaw09.LikeUnions'. -/
def likeUnionsCard : Claim7 := { stood := { row := likeUnionsRow, standIns := [], harness := (true, "0b3f6406f77db93b7d351c159f3e83ed723aab81c5b9bed1eee7625061a9c7cd"), looks := true }, kinds := [], alts := [], laidByText := true, laidKinds := [.data, .data], laidTests := true, laidLooks := .later }
def LikeUnionsCardSaid : Prop := Claim7.holds Tryd.pinned (.plain (OpenSpec.ofChange likeUnionsSpec)) likeUnionsCard

/-- THE TIED CARD OF 'lampblacklaw09.LikeNamed'. -/
def likeNamedCard : Claim7 := { stood := { row := likeNamedRow, standIns := [], harness := (true, "0b3f6406f77db93b7d351c159f3e83ed723aab81c5b9bed1eee7625061a9c7cd"), looks := true }, kinds := [], alts := [], laidByText := true, laidKinds := [.data, .data], laidTests := true, laidLooks := .later }
def LikeNamedCardSaid : Prop := Claim7.holds Tryd.pinned (.plain (OpenSpec.ofChange likeNamedSpec)) likeNamedCard

/-- THE TIED CARD OF 'lampblacklaw09.LikeSame'. -/
def likeSameCard : Claim7 := { stood := { row := likeSameRow, standIns := [], harness := (true, "0b3f6406f77db93b7d351c159f3e83ed723aab81c5b9bed1eee7625061a9c7cd"), looks := true }, kinds := [], alts := [], laidByText := true, laidKinds := [.data, .data], laidTests := true, laidLooks := .later }
def LikeSameCardSaid : Prop := Claim7.holds Tryd.pinned (.plain (OpenSpec.ofChange likeSameSpec)) likeSameCard

/-- THE TIED CARD OF 'lampblacklaw09.LikeTurned'. -/
def likeTurnedCard : Claim7 := { stood := { row := likeTurnedRow, standIns := [], harness := (true, "0b3f6406f77db93b7d351c159f3e83ed723aab81c5b9bed1eee7625061a9c7cd"), looks := true }, kinds := [], alts := [], laidByText := true, laidKinds := [.data, .data], laidTests := true, laidLooks := .later }
def LikeTurnedCardSaid : Prop := Claim7.holds Tryd.pinned (.plain (OpenSpec.ofChange likeTurnedSpec)) likeTurnedCard

/-- THE TIED CARD OF 'lampblacklaw09.LikeAlike'. -/
def likeAlikeCard : Claim7 := { stood := { row := likeAlikeRow, standIns := [], harness := (true, "0b3f6406f77db93b7d351c159f3e83ed723aab81c5b9bed1eee7625061a9c7cd"), looks := true }, kinds := [], alts := [], laidByText := true, laidKinds := [.data, .data, .data, .data], laidTests := true, laidLooks := .later }
def LikeAlikeCardSaid : Prop := Claim7.holds Tryd.pinned (.plain (OpenSpec.ofChange likeAlikeSpec)) likeAlikeCard

/-- THE TIED CARD OF 'lampblacklaw09.LikePrints'. -/
def likePrintsCard : Claim7 := { stood := { row := likePrintsRow, standIns := [], harness := (true, "0b3f6406f77db93b7d351c159f3e83ed723aab81c5b9bed1eee7625061a9c7cd"), looks := true }, kinds := [], alts := [], laidByText := true, laidKinds := [.data, .data], laidTests := true, laidLooks := .later }
def LikePrintsCardSaid : Prop := Claim7.holds Tryd.pinned (.plain (OpenSpec.ofChange likePrintsSpec)) likePrintsCard

/-- THE TIED CARD OF 'lampblacklaw09.LikeHolds'. -/
def likeHoldsCard : Claim7 := { stood := { row := likeHoldsRow, standIns := [], harness := (true, "0b3f6406f77db93b7d351c159f3e83ed723aab81c5b9bed1eee7625061a9c7cd"), looks := true }, kinds := [], alts := [], laidByText := true, laidKinds := [.data, .data], laidTests := true, laidLooks := .later }
def LikeHoldsCardSaid : Prop := Claim7.holds Tryd.pinned (.plain (OpenSpec.ofChange likeHoldsSpec)) likeHoldsCard

/-- THE TIED CARD OF 'lampblacklaw09.LikeReads'. -/
def likeReadsCard : Claim7 := { stood := { row := likeReadsRow, standIns := [], harness := (true, "0b3f6406f77db93b7d351c159f3e83ed723aab81c5b9bed1eee7625061a9c7cd"), looks := true }, kinds := [], alts := [], laidByText := true, laidKinds := [.data, .data], laidTests := true, laidLooks := .later }
def LikeReadsCardSaid : Prop := Claim7.holds Tryd.pinned (.plain (OpenSpec.ofChange likeReadsSpec)) likeReadsCard

/-- THE SECOND FORM's CARD OF 'lampblacklaw09.LikeWins'. -/
def likeWinsUptoCard : Claim7 := { stood := { row := likeWinsUptoRow, standIns := [], harness := (true, "0b3f6406f77db93b7d351c159f3e83ed723aab81c5b9bed1eee7625061a9c7cd"), looks := true }, kinds := [], alts := [], laidByText := true, laidKinds := [.data, .data], laidTests := true, laidLooks := .later }
def LikeWinsUptoCardSaid : Prop := Claim7.holds Tryd.pinned (.plain (OpenSpec.upto likeWinsSpec)) likeWinsUptoCard

/-- THE SECOND FORM's CARD OF 'lampblacklaw09.LikeAnswers'. -/
def likeAnswersUptoCard : Claim7 := { stood := { row := likeAnswersUptoRow, standIns := [], harness := (true, "0b3f6406f77db93b7d351c159f3e83ed723aab81c5b9bed1eee7625061a9c7cd"), looks := true }, kinds := [], alts := [], laidByText := true, laidKinds := [.data, .data], laidTests := true, laidLooks := .later }
def LikeAnswersUptoCardSaid : Prop := Claim7.holds Tryd.pinned (.plain (OpenSpec.upto likeAnswersSpec)) likeAnswersUptoCard

/-- THE SECOND FORM's CARD OF 'lampblacklaw09.LikeRefines'. -/
def likeRefinesUptoCard : Claim7 := { stood := { row := likeRefinesUptoRow, standIns := [], harness := (true, "0b3f6406f77db93b7d351c159f3e83ed723aab81c5b9bed1eee7625061a9c7cd"), looks := true }, kinds := [], alts := [], laidByText := true, laidKinds := [.data, .data], laidTests := true, laidLooks := .later }
def LikeRefinesUptoCardSaid : Prop := Claim7.holds Tryd.pinned (.plain (OpenSpec.upto likeRefinesSpec)) likeRefinesUptoCard

/-- THE SECOND FORM's CARD OF 'lampblacklaw09.LikeMaps'. -/
def likeMapsUptoCard : Claim7 := { stood := { row := likeMapsUptoRow, standIns := [], harness := (true, "0b3f6406f77db93b7d351c159f3e83ed723aab81c5b9bed1eee7625061a9c7cd"), looks := true }, kinds := [], alts := [], laidByText := true, laidKinds := [.data, .data], laidTests := true, laidLooks := .later }
def LikeMapsUptoCardSaid : Prop := Claim7.holds Tryd.pinned (.plain (OpenSpec.upto likeMapsSpec)) likeMapsUptoCard

/-- THE SECOND FORM's CARD OF 'lampblacklaw09.LikeTrees'. -/
def likeTreesUptoCard : Claim7 := { stood := { row := likeTreesUptoRow, standIns := [], harness := (true, "0b3f6406f77db93b7d351c159f3e83ed723aab81c5b9bed1eee7625061a9c7cd"), looks := true }, kinds := [], alts := [], laidByText := true, laidKinds := [.data, .data], laidTests := true, laidLooks := .later }
def LikeTreesUptoCardSaid : Prop := Claim7.holds Tryd.pinned (.plain (OpenSpec.upto likeTreesSpec)) likeTreesUptoCard

/-- THE SECOND FORM's CARD OF 'lampblacklaw09.LikeUnions'. -/
def likeUnionsUptoCard : Claim7 := { stood := { row := likeUnionsUptoRow, standIns := [], harness := (true, "0b3f6406f77db93b7d351c159f3e83ed723aab81c5b9bed1eee7625061a9c7cd"), looks := true }, kinds := [], alts := [], laidByText := true, laidKinds := [.data, .data], laidTests := true, laidLooks := .later }
def LikeUnionsUptoCardSaid : Prop := Claim7.holds Tryd.pinned (.plain (OpenSpec.upto likeUnionsSpec)) likeUnionsUptoCard

/-- THE SECOND FORM's CARD OF 'lampblacklaw09.LikeNamed'. -/
def likeNamedUptoCard : Claim7 := { stood := { row := likeNamedUptoRow, standIns := [], harness := (true, "0b3f6406f77db93b7d351c159f3e83ed723aab81c5b9bed1eee7625061a9c7cd"), looks := true }, kinds := [], alts := [], laidByText := true, laidKinds := [.data, .data], laidTests := true, laidLooks := .later }
def LikeNamedUptoCardSaid : Prop := Claim7.holds Tryd.pinned (.plain (OpenSpec.upto likeNamedSpec)) likeNamedUptoCard

/-- THE SECOND FORM's CARD OF 'lampblacklaw09.LikeSame'. -/
def likeSameUptoCard : Claim7 := { stood := { row := likeSameUptoRow, standIns := [], harness := (true, "0b3f6406f77db93b7d351c159f3e83ed723aab81c5b9bed1eee7625061a9c7cd"), looks := true }, kinds := [], alts := [], laidByText := true, laidKinds := [.data, .data], laidTests := true, laidLooks := .later }
def LikeSameUptoCardSaid : Prop := Claim7.holds Tryd.pinned (.plain (OpenSpec.upto likeSameSpec)) likeSameUptoCard

/-- THE SECOND FORM's CARD OF 'lampblacklaw09.LikeTurned'. -/
def likeTurnedUptoCard : Claim7 := { stood := { row := likeTurnedUptoRow, standIns := [], harness := (true, "0b3f6406f77db93b7d351c159f3e83ed723aab81c5b9bed1eee7625061a9c7cd"), looks := true }, kinds := [], alts := [], laidByText := true, laidKinds := [.data, .data], laidTests := true, laidLooks := .later }
def LikeTurnedUptoCardSaid : Prop := Claim7.holds Tryd.pinned (.plain (OpenSpec.upto likeTurnedSpec)) likeTurnedUptoCard

/-- THE SECOND FORM's CARD OF 'lampblacklaw09.LikeAlike'. -/
def likeAlikeUptoCard : Claim7 := { stood := { row := likeAlikeUptoRow, standIns := [], harness := (true, "0b3f6406f77db93b7d351c159f3e83ed723aab81c5b9bed1eee7625061a9c7cd"), looks := true }, kinds := [], alts := [], laidByText := true, laidKinds := [.data, .data, .data, .data], laidTests := true, laidLooks := .later }
def LikeAlikeUptoCardSaid : Prop := Claim7.holds Tryd.pinned (.plain (OpenSpec.upto likeAlikeSpec)) likeAlikeUptoCard

/-- THE SECOND FORM's CARD OF 'lampblacklaw09.LikePrints'. -/
def likePrintsUptoCard : Claim7 := { stood := { row := likePrintsUptoRow, standIns := [], harness := (true, "0b3f6406f77db93b7d351c159f3e83ed723aab81c5b9bed1eee7625061a9c7cd"), looks := true }, kinds := [], alts := [], laidByText := true, laidKinds := [.data, .data], laidTests := true, laidLooks := .later }
def LikePrintsUptoCardSaid : Prop := Claim7.holds Tryd.pinned (.plain (OpenSpec.upto likePrintsSpec)) likePrintsUptoCard

/-- THE SECOND FORM's CARD OF 'lampblacklaw09.LikeHolds'. -/
def likeHoldsUptoCard : Claim7 := { stood := { row := likeHoldsUptoRow, standIns := [], harness := (true, "0b3f6406f77db93b7d351c159f3e83ed723aab81c5b9bed1eee7625061a9c7cd"), looks := true }, kinds := [], alts := [], laidByText := true, laidKinds := [.data, .data], laidTests := true, laidLooks := .later }
def LikeHoldsUptoCardSaid : Prop := Claim7.holds Tryd.pinned (.plain (OpenSpec.upto likeHoldsSpec)) likeHoldsUptoCard

/-- THE SECOND FORM's CARD OF 'lampblacklaw09.LikeReads'. -/
def likeReadsUptoCard : Claim7 := { stood := { row := likeReadsUptoRow, standIns := [], harness := (true, "0b3f6406f77db93b7d351c159f3e83ed723aab81c5b9bed1eee7625061a9c7cd"), looks := true }, kinds := [], alts := [], laidByText := true, laidKinds := [.data, .data], laidTests := true, laidLooks := .later }
def LikeReadsUptoCardSaid : Prop := Claim7.holds Tryd.pinned (.plain (OpenSpec.upto likeReadsSpec)) likeReadsUptoCard
end Rows
end Go.Proofs.YtfcbmcmkakceaaaDoor
