/-
  No cell of these rows narrows 'for every input' (looked for: loops, veiled, ifaces, maps, wideKeys, modest, calm, conditions, laid).
  DERIVED. THE GIVEN ROWS OF THIS SEAT. 15 by the template 'for every input the law returns true; each argument reads behind the call as it read before'; 0 by the template 'total and deterministic' (their statements: YtmneioafbkknhaaTotals.lean).
  GIVEN WITH THE SEED: the statements are not yours to turn. If you find one false, say at which input.
  Laid BY PROGRAM, IN A SANDBOX (cutbox-rows.mjs): the forced cells as the released guide's own fill.sh prints them over the translation 6648fa464ee07cfe… (all of the seat's roots in one cut). By AI agents, Wed Nov 11 2026. No macro, syntax, notation, axiom, sorry.
-/
import Derived.Test.YtmneioafbkknhaaChecked
import GoSem.Claim
import GoSem.ClaimJoined
import GoSem.ClaimMapViews
import Derived.JoinedTies
import Derived.KernelRfl
namespace Go.Proofs.Ytmneioafbkknhaa
/- THE CELL 'sum', in the pinned program and in every row, IS THE sha256 OF THE DUMP (.gsa) THAT YtmneioafbkknhaaProg.lean LOADS. Nothing in Lean hashes anything: it is a label: what it is worth is what the hold of that sum in a sandbox is worth. -/
noncomputable def Try.pinned : Pinned := { name := "ytmneioafbkknhaa", sum := "6648fa464ee07cfe09bd921c2b06303d2e755c7aca02113d6562b31d97169426", checked := Try.checked }
namespace Rows
def none {H : Type} : Left H := { results := [], args := [] }

/-- 'lampblacklaw08.PuzzleBlames': WHATEVER THE INPUT: true; the input reads as it did. -/
def puzzleBlamesSpec : ChangeSpec := { name := "puzzleBlames", fn := fun _ => fun
  | [d] => { results := [.lit (.bool true)], args := [d] }
  | _ => none }
def puzzleBlamesRow : OpenClaim := { program := "ytmneioafbkknhaa", sum := "6648fa464ee07cfe09bd921c2b06303d2e755c7aca02113d6562b31d97169426", func := "lampblack/lampblacklaw08.PuzzleBlames", spec := "puzzleBlames", unfollowed := true, recurses := true, apart := false }
def PuzzleBlamesSaid : Prop := puzzleBlamesRow.holds Try.pinned (OpenSpec.ofChange puzzleBlamesSpec)

/-- ITS FALSE NEIGHBOUR: 'it returns false'. Refute it at one input. -/
def puzzleBlamesWrong : ChangeSpec := { name := "puzzleBlames", fn := fun _ => fun
  | [d] => { results := [.lit (.bool false)], args := [d] }
  | _ => none }
def PuzzleBlamesWrongFalsely : Prop := puzzleBlamesRow.holds Try.pinned (OpenSpec.ofChange puzzleBlamesWrong)

/-- 'lampblacklaw08.PuzzleBlamed': WHATEVER THE INPUT: true; the input reads as it did. -/
def puzzleBlamedSpec : ChangeSpec := { name := "puzzleBlamed", fn := fun _ => fun
  | [d] => { results := [.lit (.bool true)], args := [d] }
  | _ => none }
def puzzleBlamedRow : OpenClaim := { program := "ytmneioafbkknhaa", sum := "6648fa464ee07cfe09bd921c2b06303d2e755c7aca02113d6562b31d97169426", func := "lampblack/lampblacklaw08.PuzzleBlamed", spec := "puzzleBlamed", unfollowed := true, recurses := true, apart := false }
def PuzzleBlamedSaid : Prop := puzzleBlamedRow.holds Try.pinned (OpenSpec.ofChange puzzleBlamedSpec)

/-- ITS FALSE NEIGHBOUR: 'it returns false'. Refute it at one input. -/
def puzzleBlamedWrong : ChangeSpec := { name := "puzzleBlamed", fn := fun _ => fun
  | [d] => { results := [.lit (.bool false)], args := [d] }
  | _ => none }
def PuzzleBlamedWrongFalsely : Prop := puzzleBlamedRow.holds Try.pinned (OpenSpec.ofChange puzzleBlamedWrong)

/-- 'lampblacklaw08.PuzzleSolves': WHATEVER THE INPUT: true; the input reads as it did. -/
def puzzleSolvesSpec : ChangeSpec := { name := "puzzleSolves", fn := fun _ => fun
  | [d1, d2] => { results := [.lit (.bool true)], args := [d1, d2] }
  | _ => none }
def puzzleSolvesRow : OpenClaim := { program := "ytmneioafbkknhaa", sum := "6648fa464ee07cfe09bd921c2b06303d2e755c7aca02113d6562b31d97169426", func := "lampblack/lampblacklaw08.PuzzleSolves", spec := "puzzleSolves", unfollowed := true, recurses := true, apart := false }
def PuzzleSolvesSaid : Prop := puzzleSolvesRow.holds Try.pinned (OpenSpec.ofChange puzzleSolvesSpec)

/-- ITS FALSE NEIGHBOUR: 'it returns false'. Refute it at one input. -/
def puzzleSolvesWrong : ChangeSpec := { name := "puzzleSolves", fn := fun _ => fun
  | [d1, d2] => { results := [.lit (.bool false)], args := [d1, d2] }
  | _ => none }
def PuzzleSolvesWrongFalsely : Prop := puzzleSolvesRow.holds Try.pinned (OpenSpec.ofChange puzzleSolvesWrong)

/-- 'lampblacklaw08.PuzzleKeeps': WHATEVER THE INPUT: true; the input reads as it did. -/
def puzzleKeepsSpec : ChangeSpec := { name := "puzzleKeeps", fn := fun _ => fun
  | [d1, d2] => { results := [.lit (.bool true)], args := [d1, d2] }
  | _ => none }
def puzzleKeepsRow : OpenClaim := { program := "ytmneioafbkknhaa", sum := "6648fa464ee07cfe09bd921c2b06303d2e755c7aca02113d6562b31d97169426", func := "lampblack/lampblacklaw08.PuzzleKeeps", spec := "puzzleKeeps", unfollowed := true, recurses := true, apart := false }
def PuzzleKeepsSaid : Prop := puzzleKeepsRow.holds Try.pinned (OpenSpec.ofChange puzzleKeepsSpec)

/-- ITS FALSE NEIGHBOUR: 'it returns false'. Refute it at one input. -/
def puzzleKeepsWrong : ChangeSpec := { name := "puzzleKeeps", fn := fun _ => fun
  | [d1, d2] => { results := [.lit (.bool false)], args := [d1, d2] }
  | _ => none }
def PuzzleKeepsWrongFalsely : Prop := puzzleKeepsRow.holds Try.pinned (OpenSpec.ofChange puzzleKeepsWrong)

/-- 'lampblacklaw08.PuzzlePairs': WHATEVER THE INPUT: true; the input reads as it did. -/
def puzzlePairsSpec : ChangeSpec := { name := "puzzlePairs", fn := fun _ => fun
  | [d] => { results := [.lit (.bool true)], args := [d] }
  | _ => none }
def puzzlePairsRow : OpenClaim := { program := "ytmneioafbkknhaa", sum := "6648fa464ee07cfe09bd921c2b06303d2e755c7aca02113d6562b31d97169426", func := "lampblack/lampblacklaw08.PuzzlePairs", spec := "puzzlePairs", unfollowed := true, recurses := true, apart := false }
def PuzzlePairsSaid : Prop := puzzlePairsRow.holds Try.pinned (OpenSpec.ofChange puzzlePairsSpec)

/-- ITS FALSE NEIGHBOUR: 'it returns false'. Refute it at one input. -/
def puzzlePairsWrong : ChangeSpec := { name := "puzzlePairs", fn := fun _ => fun
  | [d] => { results := [.lit (.bool false)], args := [d] }
  | _ => none }
def PuzzlePairsWrongFalsely : Prop := puzzlePairsRow.holds Try.pinned (OpenSpec.ofChange puzzlePairsWrong)

/-- 'lampblacklaw08.PuzzleNarrows': WHATEVER THE INPUT: true; the input reads as it did. -/
def puzzleNarrowsSpec : ChangeSpec := { name := "puzzleNarrows", fn := fun _ => fun
  | [d] => { results := [.lit (.bool true)], args := [d] }
  | _ => none }
def puzzleNarrowsRow : OpenClaim := { program := "ytmneioafbkknhaa", sum := "6648fa464ee07cfe09bd921c2b06303d2e755c7aca02113d6562b31d97169426", func := "lampblack/lampblacklaw08.PuzzleNarrows", spec := "puzzleNarrows", unfollowed := true, recurses := true, apart := false }
def PuzzleNarrowsSaid : Prop := puzzleNarrowsRow.holds Try.pinned (OpenSpec.ofChange puzzleNarrowsSpec)

/-- ITS FALSE NEIGHBOUR: 'it returns false'. Refute it at one input. -/
def puzzleNarrowsWrong : ChangeSpec := { name := "puzzleNarrows", fn := fun _ => fun
  | [d] => { results := [.lit (.bool false)], args := [d] }
  | _ => none }
def PuzzleNarrowsWrongFalsely : Prop := puzzleNarrowsRow.holds Try.pinned (OpenSpec.ofChange puzzleNarrowsWrong)

/-- 'lampblacklaw08.PuzzleTwo': WHATEVER THE INPUT: true; the input reads as it did. -/
def puzzleTwoSpec : ChangeSpec := { name := "puzzleTwo", fn := fun _ => fun
  | [d] => { results := [.lit (.bool true)], args := [d] }
  | _ => none }
def puzzleTwoRow : OpenClaim := { program := "ytmneioafbkknhaa", sum := "6648fa464ee07cfe09bd921c2b06303d2e755c7aca02113d6562b31d97169426", func := "lampblack/lampblacklaw08.PuzzleTwo", spec := "puzzleTwo", unfollowed := true, recurses := true, apart := false }
def PuzzleTwoSaid : Prop := puzzleTwoRow.holds Try.pinned (OpenSpec.ofChange puzzleTwoSpec)

/-- ITS FALSE NEIGHBOUR: 'it returns false'. Refute it at one input. -/
def puzzleTwoWrong : ChangeSpec := { name := "puzzleTwo", fn := fun _ => fun
  | [d] => { results := [.lit (.bool false)], args := [d] }
  | _ => none }
def PuzzleTwoWrongFalsely : Prop := puzzleTwoRow.holds Try.pinned (OpenSpec.ofChange puzzleTwoWrong)

/-- 'lampblacklaw08.PuzzleEnds': WHATEVER THE INPUT: true; the input reads as it did. -/
def puzzleEndsSpec : ChangeSpec := { name := "puzzleEnds", fn := fun _ => fun
  | [d] => { results := [.lit (.bool true)], args := [d] }
  | _ => none }
def puzzleEndsRow : OpenClaim := { program := "ytmneioafbkknhaa", sum := "6648fa464ee07cfe09bd921c2b06303d2e755c7aca02113d6562b31d97169426", func := "lampblack/lampblacklaw08.PuzzleEnds", spec := "puzzleEnds", unfollowed := true, recurses := true, apart := false }
def PuzzleEndsSaid : Prop := puzzleEndsRow.holds Try.pinned (OpenSpec.ofChange puzzleEndsSpec)

/-- ITS FALSE NEIGHBOUR: 'it returns false'. Refute it at one input. -/
def puzzleEndsWrong : ChangeSpec := { name := "puzzleEnds", fn := fun _ => fun
  | [d] => { results := [.lit (.bool false)], args := [d] }
  | _ => none }
def PuzzleEndsWrongFalsely : Prop := puzzleEndsRow.holds Try.pinned (OpenSpec.ofChange puzzleEndsWrong)

/-- 'lampblacklaw08.PuzzleMore': WHATEVER THE INPUT: true; the input reads as it did. -/
def puzzleMoreSpec : ChangeSpec := { name := "puzzleMore", fn := fun _ => fun
  | [d1, d2] => { results := [.lit (.bool true)], args := [d1, d2] }
  | _ => none }
def puzzleMoreRow : OpenClaim := { program := "ytmneioafbkknhaa", sum := "6648fa464ee07cfe09bd921c2b06303d2e755c7aca02113d6562b31d97169426", func := "lampblack/lampblacklaw08.PuzzleMore", spec := "puzzleMore", unfollowed := true, recurses := true, apart := false }
def PuzzleMoreSaid : Prop := puzzleMoreRow.holds Try.pinned (OpenSpec.ofChange puzzleMoreSpec)

/-- ITS FALSE NEIGHBOUR: 'it returns false'. Refute it at one input. -/
def puzzleMoreWrong : ChangeSpec := { name := "puzzleMore", fn := fun _ => fun
  | [d1, d2] => { results := [.lit (.bool false)], args := [d1, d2] }
  | _ => none }
def PuzzleMoreWrongFalsely : Prop := puzzleMoreRow.holds Try.pinned (OpenSpec.ofChange puzzleMoreWrong)

/-- 'lampblacklaw08.PuzzleProjects': WHATEVER THE INPUT: true; the input reads as it did. -/
def puzzleProjectsSpec : ChangeSpec := { name := "puzzleProjects", fn := fun _ => fun
  | [d1, d2] => { results := [.lit (.bool true)], args := [d1, d2] }
  | _ => none }
def puzzleProjectsRow : OpenClaim := { program := "ytmneioafbkknhaa", sum := "6648fa464ee07cfe09bd921c2b06303d2e755c7aca02113d6562b31d97169426", func := "lampblack/lampblacklaw08.PuzzleProjects", spec := "puzzleProjects", unfollowed := true, recurses := true, apart := false }
def PuzzleProjectsSaid : Prop := puzzleProjectsRow.holds Try.pinned (OpenSpec.ofChange puzzleProjectsSpec)

/-- ITS FALSE NEIGHBOUR: 'it returns false'. Refute it at one input. -/
def puzzleProjectsWrong : ChangeSpec := { name := "puzzleProjects", fn := fun _ => fun
  | [d1, d2] => { results := [.lit (.bool false)], args := [d1, d2] }
  | _ => none }
def PuzzleProjectsWrongFalsely : Prop := puzzleProjectsRow.holds Try.pinned (OpenSpec.ofChange puzzleProjectsWrong)

/-- 'lampblacklaw08.PuzzleHulls': WHATEVER THE INPUT: true; the input reads as it did. -/
def puzzleHullsSpec : ChangeSpec := { name := "puzzleHulls", fn := fun _ => fun
  | [d1, d2] => { results := [.lit (.bool true)], args := [d1, d2] }
  | _ => none }
def puzzleHullsRow : OpenClaim := { program := "ytmneioafbkknhaa", sum := "6648fa464ee07cfe09bd921c2b06303d2e755c7aca02113d6562b31d97169426", func := "lampblack/lampblacklaw08.PuzzleHulls", spec := "puzzleHulls", unfollowed := true, recurses := true, apart := false }
def PuzzleHullsSaid : Prop := puzzleHullsRow.holds Try.pinned (OpenSpec.ofChange puzzleHullsSpec)

/-- ITS FALSE NEIGHBOUR: 'it returns false'. Refute it at one input. -/
def puzzleHullsWrong : ChangeSpec := { name := "puzzleHulls", fn := fun _ => fun
  | [d1, d2] => { results := [.lit (.bool false)], args := [d1, d2] }
  | _ => none }
def PuzzleHullsWrongFalsely : Prop := puzzleHullsRow.holds Try.pinned (OpenSpec.ofChange puzzleHullsWrong)

/-- 'lampblacklaw08.PuzzleHulled': WHATEVER THE INPUT: true; the input reads as it did. -/
def puzzleHulledSpec : ChangeSpec := { name := "puzzleHulled", fn := fun _ => fun
  | [d1, d2] => { results := [.lit (.bool true)], args := [d1, d2] }
  | _ => none }
def puzzleHulledRow : OpenClaim := { program := "ytmneioafbkknhaa", sum := "6648fa464ee07cfe09bd921c2b06303d2e755c7aca02113d6562b31d97169426", func := "lampblack/lampblacklaw08.PuzzleHulled", spec := "puzzleHulled", unfollowed := true, recurses := true, apart := false }
def PuzzleHulledSaid : Prop := puzzleHulledRow.holds Try.pinned (OpenSpec.ofChange puzzleHulledSpec)

/-- ITS FALSE NEIGHBOUR: 'it returns false'. Refute it at one input. -/
def puzzleHulledWrong : ChangeSpec := { name := "puzzleHulled", fn := fun _ => fun
  | [d1, d2] => { results := [.lit (.bool false)], args := [d1, d2] }
  | _ => none }
def PuzzleHulledWrongFalsely : Prop := puzzleHulledRow.holds Try.pinned (OpenSpec.ofChange puzzleHulledWrong)

/-- 'lampblacklaw08.PuzzleKept': WHATEVER THE INPUT: true; the input reads as it did. -/
def puzzleKeptSpec : ChangeSpec := { name := "puzzleKept", fn := fun _ => fun
  | [d1, d2, d3, d4, d5] => { results := [.lit (.bool true)], args := [d1, d2, d3, d4, d5] }
  | _ => none }
def puzzleKeptRow : OpenClaim := { program := "ytmneioafbkknhaa", sum := "6648fa464ee07cfe09bd921c2b06303d2e755c7aca02113d6562b31d97169426", func := "lampblack/lampblacklaw08.PuzzleKept", spec := "puzzleKept", unfollowed := true, recurses := true, apart := false }
def PuzzleKeptSaid : Prop := puzzleKeptRow.holds Try.pinned (OpenSpec.ofChange puzzleKeptSpec)

/-- ITS FALSE NEIGHBOUR: 'it returns false'. Refute it at one input. -/
def puzzleKeptWrong : ChangeSpec := { name := "puzzleKept", fn := fun _ => fun
  | [d1, d2, d3, d4, d5] => { results := [.lit (.bool false)], args := [d1, d2, d3, d4, d5] }
  | _ => none }
def PuzzleKeptWrongFalsely : Prop := puzzleKeptRow.holds Try.pinned (OpenSpec.ofChange puzzleKeptWrong)

/-- 'lampblacklaw08.PuzzleOdds': WHATEVER THE INPUT: true; the input reads as it did. -/
def puzzleOddsSpec : ChangeSpec := { name := "puzzleOdds", fn := fun _ => fun
  | [d1, d2] => { results := [.lit (.bool true)], args := [d1, d2] }
  | _ => none }
def puzzleOddsRow : OpenClaim := { program := "ytmneioafbkknhaa", sum := "6648fa464ee07cfe09bd921c2b06303d2e755c7aca02113d6562b31d97169426", func := "lampblack/lampblacklaw08.PuzzleOdds", spec := "puzzleOdds", unfollowed := true, recurses := true, apart := false }
def PuzzleOddsSaid : Prop := puzzleOddsRow.holds Try.pinned (OpenSpec.ofChange puzzleOddsSpec)

/-- ITS FALSE NEIGHBOUR: 'it returns false'. Refute it at one input. -/
def puzzleOddsWrong : ChangeSpec := { name := "puzzleOdds", fn := fun _ => fun
  | [d1, d2] => { results := [.lit (.bool false)], args := [d1, d2] }
  | _ => none }
def PuzzleOddsWrongFalsely : Prop := puzzleOddsRow.holds Try.pinned (OpenSpec.ofChange puzzleOddsWrong)

/-- 'lampblacklaw08.PuzzleSums': WHATEVER THE INPUT: true; the input reads as it did. -/
def puzzleSumsSpec : ChangeSpec := { name := "puzzleSums", fn := fun _ => fun
  | [d1, d2] => { results := [.lit (.bool true)], args := [d1, d2] }
  | _ => none }
def puzzleSumsRow : OpenClaim := { program := "ytmneioafbkknhaa", sum := "6648fa464ee07cfe09bd921c2b06303d2e755c7aca02113d6562b31d97169426", func := "lampblack/lampblacklaw08.PuzzleSums", spec := "puzzleSums", unfollowed := true, recurses := true, apart := false }
def PuzzleSumsSaid : Prop := puzzleSumsRow.holds Try.pinned (OpenSpec.ofChange puzzleSumsSpec)

/-- ITS FALSE NEIGHBOUR: 'it returns false'. Refute it at one input. -/
def puzzleSumsWrong : ChangeSpec := { name := "puzzleSums", fn := fun _ => fun
  | [d1, d2] => { results := [.lit (.bool false)], args := [d1, d2] }
  | _ => none }
def PuzzleSumsWrongFalsely : Prop := puzzleSumsRow.holds Try.pinned (OpenSpec.ofChange puzzleSumsWrong)

/- THE SECOND FORM. 'bulk': how many values and letters a reading holds, each counted each time it is reached (what is shared counts as often as it is met; a slice's spare places count too). A statement '..UptoSaid' is the law's where the arguments, and the package variables that the reading takes, are together of bulk at most 1048576: NARROWER than '..Said'. Prove '..Said' where nothing that the law and all that it calls make is longer than what came in: it says more and counts as full. Else prove '..UptoSaid'. A law counts once. -/
mutual
def uptoBulk {H : Type} : DataW H → Nat
  | .lit (.string bytes) => bytes.length + 1
  | .lit _ => 1
  | .nil => 1
  | .ptr d => uptoBulk d + 1
  | .slice elems spare => uptoBulkAll elems + uptoBulkAll spare + 1
  | .agg parts => uptoBulkAll parts + 1
  | .iface _ d => uptoBulk d + 1
  | .map entries => uptoBulkEntries entries + 1
  | .held _ => 1
def uptoBulkAll {H : Type} : List (DataW H) → Nat
  | [] => 0
  | d :: r => uptoBulk d + uptoBulkAll r
def uptoBulkEntries {H : Type} : List (Lit × DataW H) → Nat
  | [] => 0
  | x :: r => uptoBulkEntry x + uptoBulkEntries r
def uptoBulkEntry {H : Type} : Lit × DataW H → Nat
  | (.string bytes, d) => bytes.length + uptoBulk d + 1
  | (_, d) => uptoBulk d + 1
 end
def uptoSmall : (H : Type) → List (DataW H) → Bool := fun _ ds => decide (uptoBulkAll ds ≤ 1048576)
def OpenSpec.upto (s : _root_.Go.ChangeSpec) : _root_.Go.OpenSpec := { _root_.Go.OpenSpec.ofChange s with cond := some uptoSmall }

/-- 'lampblacklaw08.PuzzleBlames', WHERE WHAT IT READS IS OF BULK AT MOST 1048576: true; the input reads as it did. -/
def puzzleBlamesUptoRow : OpenClaim := { program := "ytmneioafbkknhaa", sum := "6648fa464ee07cfe09bd921c2b06303d2e755c7aca02113d6562b31d97169426", func := "lampblack/lampblacklaw08.PuzzleBlames", spec := "puzzleBlames", unfollowed := true, recurses := true, apart := false, narrowed := true }
def PuzzleBlamesUptoSaid : Prop := puzzleBlamesUptoRow.holds Try.pinned (OpenSpec.upto puzzleBlamesSpec)

/-- 'lampblacklaw08.PuzzleBlamed', WHERE WHAT IT READS IS OF BULK AT MOST 1048576: true; the input reads as it did. -/
def puzzleBlamedUptoRow : OpenClaim := { program := "ytmneioafbkknhaa", sum := "6648fa464ee07cfe09bd921c2b06303d2e755c7aca02113d6562b31d97169426", func := "lampblack/lampblacklaw08.PuzzleBlamed", spec := "puzzleBlamed", unfollowed := true, recurses := true, apart := false, narrowed := true }
def PuzzleBlamedUptoSaid : Prop := puzzleBlamedUptoRow.holds Try.pinned (OpenSpec.upto puzzleBlamedSpec)

/-- 'lampblacklaw08.PuzzleSolves', WHERE WHAT IT READS IS OF BULK AT MOST 1048576: true; the input reads as it did. -/
def puzzleSolvesUptoRow : OpenClaim := { program := "ytmneioafbkknhaa", sum := "6648fa464ee07cfe09bd921c2b06303d2e755c7aca02113d6562b31d97169426", func := "lampblack/lampblacklaw08.PuzzleSolves", spec := "puzzleSolves", unfollowed := true, recurses := true, apart := false, narrowed := true }
def PuzzleSolvesUptoSaid : Prop := puzzleSolvesUptoRow.holds Try.pinned (OpenSpec.upto puzzleSolvesSpec)

/-- 'lampblacklaw08.PuzzleKeeps', WHERE WHAT IT READS IS OF BULK AT MOST 1048576: true; the input reads as it did. -/
def puzzleKeepsUptoRow : OpenClaim := { program := "ytmneioafbkknhaa", sum := "6648fa464ee07cfe09bd921c2b06303d2e755c7aca02113d6562b31d97169426", func := "lampblack/lampblacklaw08.PuzzleKeeps", spec := "puzzleKeeps", unfollowed := true, recurses := true, apart := false, narrowed := true }
def PuzzleKeepsUptoSaid : Prop := puzzleKeepsUptoRow.holds Try.pinned (OpenSpec.upto puzzleKeepsSpec)

/-- 'lampblacklaw08.PuzzlePairs', WHERE WHAT IT READS IS OF BULK AT MOST 1048576: true; the input reads as it did. -/
def puzzlePairsUptoRow : OpenClaim := { program := "ytmneioafbkknhaa", sum := "6648fa464ee07cfe09bd921c2b06303d2e755c7aca02113d6562b31d97169426", func := "lampblack/lampblacklaw08.PuzzlePairs", spec := "puzzlePairs", unfollowed := true, recurses := true, apart := false, narrowed := true }
def PuzzlePairsUptoSaid : Prop := puzzlePairsUptoRow.holds Try.pinned (OpenSpec.upto puzzlePairsSpec)

/-- 'lampblacklaw08.PuzzleNarrows', WHERE WHAT IT READS IS OF BULK AT MOST 1048576: true; the input reads as it did. -/
def puzzleNarrowsUptoRow : OpenClaim := { program := "ytmneioafbkknhaa", sum := "6648fa464ee07cfe09bd921c2b06303d2e755c7aca02113d6562b31d97169426", func := "lampblack/lampblacklaw08.PuzzleNarrows", spec := "puzzleNarrows", unfollowed := true, recurses := true, apart := false, narrowed := true }
def PuzzleNarrowsUptoSaid : Prop := puzzleNarrowsUptoRow.holds Try.pinned (OpenSpec.upto puzzleNarrowsSpec)

/-- 'lampblacklaw08.PuzzleTwo', WHERE WHAT IT READS IS OF BULK AT MOST 1048576: true; the input reads as it did. -/
def puzzleTwoUptoRow : OpenClaim := { program := "ytmneioafbkknhaa", sum := "6648fa464ee07cfe09bd921c2b06303d2e755c7aca02113d6562b31d97169426", func := "lampblack/lampblacklaw08.PuzzleTwo", spec := "puzzleTwo", unfollowed := true, recurses := true, apart := false, narrowed := true }
def PuzzleTwoUptoSaid : Prop := puzzleTwoUptoRow.holds Try.pinned (OpenSpec.upto puzzleTwoSpec)

/-- 'lampblacklaw08.PuzzleEnds', WHERE WHAT IT READS IS OF BULK AT MOST 1048576: true; the input reads as it did. -/
def puzzleEndsUptoRow : OpenClaim := { program := "ytmneioafbkknhaa", sum := "6648fa464ee07cfe09bd921c2b06303d2e755c7aca02113d6562b31d97169426", func := "lampblack/lampblacklaw08.PuzzleEnds", spec := "puzzleEnds", unfollowed := true, recurses := true, apart := false, narrowed := true }
def PuzzleEndsUptoSaid : Prop := puzzleEndsUptoRow.holds Try.pinned (OpenSpec.upto puzzleEndsSpec)

/-- 'lampblacklaw08.PuzzleMore', WHERE WHAT IT READS IS OF BULK AT MOST 1048576: true; the input reads as it did. -/
def puzzleMoreUptoRow : OpenClaim := { program := "ytmneioafbkknhaa", sum := "6648fa464ee07cfe09bd921c2b06303d2e755c7aca02113d6562b31d97169426", func := "lampblack/lampblacklaw08.PuzzleMore", spec := "puzzleMore", unfollowed := true, recurses := true, apart := false, narrowed := true }
def PuzzleMoreUptoSaid : Prop := puzzleMoreUptoRow.holds Try.pinned (OpenSpec.upto puzzleMoreSpec)

/-- 'lampblacklaw08.PuzzleProjects', WHERE WHAT IT READS IS OF BULK AT MOST 1048576: true; the input reads as it did. -/
def puzzleProjectsUptoRow : OpenClaim := { program := "ytmneioafbkknhaa", sum := "6648fa464ee07cfe09bd921c2b06303d2e755c7aca02113d6562b31d97169426", func := "lampblack/lampblacklaw08.PuzzleProjects", spec := "puzzleProjects", unfollowed := true, recurses := true, apart := false, narrowed := true }
def PuzzleProjectsUptoSaid : Prop := puzzleProjectsUptoRow.holds Try.pinned (OpenSpec.upto puzzleProjectsSpec)

/-- 'lampblacklaw08.PuzzleHulls', WHERE WHAT IT READS IS OF BULK AT MOST 1048576: true; the input reads as it did. -/
def puzzleHullsUptoRow : OpenClaim := { program := "ytmneioafbkknhaa", sum := "6648fa464ee07cfe09bd921c2b06303d2e755c7aca02113d6562b31d97169426", func := "lampblack/lampblacklaw08.PuzzleHulls", spec := "puzzleHulls", unfollowed := true, recurses := true, apart := false, narrowed := true }
def PuzzleHullsUptoSaid : Prop := puzzleHullsUptoRow.holds Try.pinned (OpenSpec.upto puzzleHullsSpec)

/-- 'lampblacklaw08.PuzzleHulled', WHERE WHAT IT READS IS OF BULK AT MOST 1048576: true; the input reads as it did. -/
def puzzleHulledUptoRow : OpenClaim := { program := "ytmneioafbkknhaa", sum := "6648fa464ee07cfe09bd921c2b06303d2e755c7aca02113d6562b31d97169426", func := "lampblack/lampblacklaw08.PuzzleHulled", spec := "puzzleHulled", unfollowed := true, recurses := true, apart := false, narrowed := true }
def PuzzleHulledUptoSaid : Prop := puzzleHulledUptoRow.holds Try.pinned (OpenSpec.upto puzzleHulledSpec)

/-- 'lampblacklaw08.PuzzleKept', WHERE WHAT IT READS IS OF BULK AT MOST 1048576: true; the input reads as it did. -/
def puzzleKeptUptoRow : OpenClaim := { program := "ytmneioafbkknhaa", sum := "6648fa464ee07cfe09bd921c2b06303d2e755c7aca02113d6562b31d97169426", func := "lampblack/lampblacklaw08.PuzzleKept", spec := "puzzleKept", unfollowed := true, recurses := true, apart := false, narrowed := true }
def PuzzleKeptUptoSaid : Prop := puzzleKeptUptoRow.holds Try.pinned (OpenSpec.upto puzzleKeptSpec)

/-- 'lampblacklaw08.PuzzleOdds', WHERE WHAT IT READS IS OF BULK AT MOST 1048576: true; the input reads as it did. -/
def puzzleOddsUptoRow : OpenClaim := { program := "ytmneioafbkknhaa", sum := "6648fa464ee07cfe09bd921c2b06303d2e755c7aca02113d6562b31d97169426", func := "lampblack/lampblacklaw08.PuzzleOdds", spec := "puzzleOdds", unfollowed := true, recurses := true, apart := false, narrowed := true }
def PuzzleOddsUptoSaid : Prop := puzzleOddsUptoRow.holds Try.pinned (OpenSpec.upto puzzleOddsSpec)

/-- 'lampblacklaw08.PuzzleSums', WHERE WHAT IT READS IS OF BULK AT MOST 1048576: true; the input reads as it did. -/
def puzzleSumsUptoRow : OpenClaim := { program := "ytmneioafbkknhaa", sum := "6648fa464ee07cfe09bd921c2b06303d2e755c7aca02113d6562b31d97169426", func := "lampblack/lampblacklaw08.PuzzleSums", spec := "puzzleSums", unfollowed := true, recurses := true, apart := false, narrowed := true }
def PuzzleSumsUptoSaid : Prop := puzzleSumsUptoRow.holds Try.pinned (OpenSpec.upto puzzleSumsSpec)

end Rows
end Go.Proofs.Ytmneioafbkknhaa
